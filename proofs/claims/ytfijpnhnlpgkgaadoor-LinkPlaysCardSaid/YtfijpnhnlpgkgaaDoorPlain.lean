/-
  Frames as plain lists of bytes: what stands in a buffer is parted in messages, what is left, and what is wrong; a message is packed behind its length.
  Plain lists: no condition, no walk.
-/
import Derived.Test.YtfijpnhnlpgkgaaDoorMem
namespace Go.Proofs.YtfijpnhnlpgkgaaDoor
open Go.RowKit
abbrev Bs := List UInt8
def mk (l : Bs) : ByteArray := ⟨l.toArray⟩
def uV (b : UInt8) : Value := .int .u8 (b.toNat : Int)
def sV (l : Bs) : Value := .string (mk l)
theorem mk_data (s : ByteArray) : mk s.data.toList = s := rfl
theorem mk_size (l : Bs) : (mk l).size = l.length := by simp [mk, ByteArray.size]
theorem byteCells_mk (l : Bs) : byteCells (mk l) = l.map uV := rfl
theorem mk_append (l m : Bs) : mk l ++ mk m = mk (l ++ m) := by
  apply ByteArray.ext; simp [mk]
theorem mk_inj {l m : Bs} (h : mk l = mk m) : l = m := by
  have := congrArg (fun s : ByteArray => s.data.toList) h
  simpa [mk] using this
theorem mk_extract (l : Bs) (a b : Nat) : (mk l).extract a b = mk ((l.drop a).take (b - a)) := by
  apply ByteArray.ext
  apply Array.toList_inj.1
  rw [ByteArray.data_extract]
  simp [mk]
theorem strOfNums_mk (l : Bs) : strOfNums (l.map fun b => (b.toNat : Int)) = mk l := by
  unfold strOfNums mk
  congr 2
  rw [List.map_map]
  conv => rhs; rw [← List.map_id l]
  apply List.map_congr_left
  intro x _
  simp
theorem sV_one {l : List Bs} : ∀ u ∈ l.map sV, u.oneCell' = true := fun u hu => by obtain ⟨_, _, rfl⟩ := List.mem_map.1 hu; rfl
theorem uV_one {l : Bs} : ∀ u ∈ l.map uV, u.oneCell' = true := fun u hu => by obtain ⟨_, _, rfl⟩ := List.mem_map.1 hu; rfl

/-- the number in the first four bytes -/
def be4 : Bs → Nat
  | a :: b :: c :: d :: _ => ((a.toNat * 256 + b.toNat) * 256 + c.toNat) * 256 + d.toNat
  | _ => 0
theorem be4_lt (l : Bs) : be4 l < 4294967296 := by
  unfold be4
  split
  · rename_i a b c d _
    have := a.toNat_lt; have := b.toNat_lt; have := c.toNat_lt; have := d.toNat_lt
    omega
  · omega
theorem be4_cons {l : Bs} (h : 4 ≤ l.length) : ∃ a b c d r, l = a :: b :: c :: d :: r ∧ be4 l = ((a.toNat * 256 + b.toNat) * 256 + c.toNat) * 256 + d.toNat := by
  match l, h with
  | a :: b :: c :: d :: r, _ => exact ⟨a, b, c, d, r, rfl, rfl⟩
theorem be4_append {l : Bs} (m : Bs) (h : 4 ≤ l.length) : be4 (l ++ m) = be4 l := by
  obtain ⟨a, b, c, d, r, rfl, _⟩ := be4_cons h
  rfl
/-- the messages in the buffer, what is left, what is wrong -/
def parse (l : Bs) : List Bs × Bs × Int :=
  if h : l.length < 4 then ([], l, 0)
  else if be4 l = 0 then ([], [], 2)
  else if 65536 < be4 l then ([], [], 3)
  else if l.length < 4 + be4 l then ([], l, 0)
  else (((l.drop 4).take (be4 l)) :: (parse (l.drop (4 + be4 l))).1, (parse (l.drop (4 + be4 l))).2)
termination_by l.length
decreasing_by all_goals (rw [List.length_drop]; omega)
theorem parse_short {l : Bs} (h : l.length < 4) : parse l = ([], l, 0) := by unfold parse; rw [dif_pos h]
theorem parse_zero {l : Bs} (h : 4 ≤ l.length) (h0 : be4 l = 0) : parse l = ([], [], 2) := by unfold parse; rw [dif_neg (by omega), if_pos h0]
theorem parse_long {l : Bs} (h : 4 ≤ l.length) (h0 : 65536 < be4 l) : parse l = ([], [], 3) := by unfold parse; rw [dif_neg (by omega), if_neg (by omega), if_pos h0]
theorem parse_wait {l : Bs} (h : 4 ≤ l.length) (h0 : be4 l ≠ 0) (h1 : be4 l ≤ 65536) (h2 : l.length < 4 + be4 l) : parse l = ([], l, 0) := by
  unfold parse; rw [dif_neg (by omega), if_neg h0, if_neg (by omega), if_pos h2]
theorem parse_msg {l : Bs} (h0 : be4 l ≠ 0) (h1 : be4 l ≤ 65536) (h2 : 4 + be4 l ≤ l.length) : parse l = (((l.drop 4).take (be4 l)) :: (parse (l.drop (4 + be4 l))).1, (parse (l.drop (4 + be4 l))).2) := by
  conv => lhs; unfold parse
  rw [dif_neg (by omega), if_neg h0, if_neg (by omega), if_neg (by omega)]
/-- how many there are; what is left is no longer; what is wrong leaves nothing -/
theorem parse_facts : ∀ (n : Nat) (l : Bs), l.length ≤ n → (parse l).1.length * 5 + (parse l).2.1.length ≤ l.length ∧ ((parse l).2.2 = 0 ∨ ((parse l).2.2 = 2 ∨ (parse l).2.2 = 3) ∧ (parse l).2.1 = []) ∧ (∀ m ∈ (parse l).1, 1 ≤ m.length ∧ m.length ≤ 65536) ∧ ((parse l).2.1.length < 65540)
  | 0, l, hn => by
    rw [parse_short (by omega)]; exact ⟨by simp, .inl rfl, nofun, by simp; omega⟩
  | n + 1, l, hn => by
    by_cases h : l.length < 4
    · rw [parse_short h]; exact ⟨by simp, .inl rfl, nofun, by simp; omega⟩
    by_cases h0 : be4 l = 0
    · rw [parse_zero (by omega) h0]; exact ⟨by simp, .inr ⟨.inl rfl, rfl⟩, nofun, by simp⟩
    by_cases h1 : 65536 < be4 l
    · rw [parse_long (by omega) h1]; exact ⟨by simp, .inr ⟨.inr rfl, rfl⟩, nofun, by simp⟩
    by_cases h2 : l.length < 4 + be4 l
    · rw [parse_wait (by omega) h0 (by omega) h2]; exact ⟨by simp, .inl rfl, nofun, by simp; omega⟩
    rw [parse_msg h0 (by omega) (by omega)]
    have hd : (l.drop (4 + be4 l)).length = l.length - (4 + be4 l) := List.length_drop
    obtain ⟨g1, g2, g3, g4⟩ := parse_facts n (l.drop (4 + be4 l)) (by omega)
    refine ⟨by simp only [List.length_cons]; omega, g2, fun m hm => ?_, g4⟩
    rcases List.mem_cons.1 hm with rfl | hm
    · rw [List.length_take, List.length_drop]; omega
    · exact g3 m hm
/-- a message behind its length -/
def head4 (n : Nat) : Bs := [UInt8.ofNat (n / 16777216), UInt8.ofNat (n / 65536), UInt8.ofNat (n / 256), UInt8.ofNat n]
def frm (m : Bs) : Bs := head4 m.length ++ m
theorem frm_length (m : Bs) : (frm m).length = 4 + m.length := by simp [frm, head4]; omega
theorem be4_head (n : Nat) (r : Bs) (h : n < 4294967296) : be4 (head4 n ++ r) = n := by
  unfold head4
  simp only [List.cons_append, List.nil_append, be4, UInt8.toNat_ofNat']
  omega
theorem parse_frm (m r : Bs) (h0 : 1 ≤ m.length) (h1 : m.length ≤ 65536) : parse (frm m ++ r) = (m :: (parse r).1, (parse r).2) := by
  have hb : be4 (frm m ++ r) = m.length := by rw [frm, List.append_assoc]; exact be4_head _ _ (by omega)
  have hl : (frm m ++ r).length = 4 + m.length + r.length := by rw [List.length_append, frm_length]
  rw [parse_msg (by omega) (by omega) (by omega), hb]
  have e1 : (frm m ++ r).drop 4 = m ++ r := rfl
  have e2 : (frm m ++ r).drop (4 + m.length) = r := by rw [← List.drop_drop, e1, List.drop_left]
  rw [e1, e2, List.take_left]
/-- whatever is cut: what comes first is told first -/
theorem parse_append : ∀ (n : Nat) (l c : Bs), l.length ≤ n → (parse l).2.2 = 0 → parse (l ++ c) = ((parse l).1 ++ (parse ((parse l).2.1 ++ c)).1, (parse ((parse l).2.1 ++ c)).2)
  | 0, l, c, hn, _ => by rw [parse_short (l := l) (by omega)]; simp
  | n + 1, l, c, hn, he => by
    by_cases h : l.length < 4
    · rw [parse_short h]; simp
    by_cases h0 : be4 l = 0
    · rw [parse_zero (by omega) h0] at he; simp at he
    by_cases h1 : 65536 < be4 l
    · rw [parse_long (by omega) h1] at he; simp at he
    by_cases h2 : l.length < 4 + be4 l
    · rw [parse_wait (l := l) (by omega) h0 (by omega) h2]; simp
    have hb := be4_append c (l := l) (by omega)
    have hp := parse_msg (l := l) h0 (by omega) (by omega)
    rw [hp] at he
    have hd : (l.drop (4 + be4 l)).length = l.length - (4 + be4 l) := List.length_drop
    have ih := parse_append n (l.drop (4 + be4 l)) c (by omega) he
    have e0 : (l ++ c).drop (4 + be4 l) = l.drop (4 + be4 l) ++ c := List.drop_append_of_le_length (by omega)
    have e1 : ((l ++ c).drop 4).take (be4 l) = (l.drop 4).take (be4 l) := by
      rw [List.drop_append_of_le_length (by omega), List.take_append_of_le_length (by rw [List.length_drop]; omega)]
    rw [parse_msg (l := l ++ c) (by omega) (by omega) (by rw [List.length_append]; omega), hb, e0, e1, ih, hp]
    simp
end Go.Proofs.YtfijpnhnlpgkgaaDoor
