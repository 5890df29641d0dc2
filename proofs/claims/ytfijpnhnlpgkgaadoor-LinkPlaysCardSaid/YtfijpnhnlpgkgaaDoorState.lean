/-
  A frame reader that the call made, apart from what is held ('RL'), and Feed, Left, Bad over it; how what is fed piece by piece is told as what is fed at once.
  Conditions: as in the contracts of Feed.
-/
import Derived.Test.YtfijpnhnlpgkgaaDoorBytes
namespace Go.Proofs.YtfijpnhnlpgkgaaDoor
open Go.RowKit
/-- a message in front, or none -/
theorem parse_cases (l : Bs) : (parse l = ([], l, 0)) ∨ (∃ n : Int, n ≠ 0 ∧ parse l = ([], [], n) ∧ ∀ c, parse (l ++ c) = ([], [], n)) ∨
    (be4 l ≠ 0 ∧ be4 l ≤ 65536 ∧ 4 + be4 l ≤ l.length) := by
  by_cases h : l.length < 4
  · exact .inl (parse_short h)
  by_cases h0 : be4 l = 0
  · exact .inr (.inl ⟨2, by decide, parse_zero (by omega) h0, fun c => parse_zero (by rw [List.length_append]; omega) (by rw [be4_append _ (by omega)]; exact h0)⟩)
  by_cases h1 : 65536 < be4 l
  · exact .inr (.inl ⟨3, by decide, parse_long (by omega) h1, fun c => parse_long (by rw [List.length_append]; omega) (by rw [be4_append _ (by omega)]; exact h1)⟩)
  by_cases h2 : l.length < 4 + be4 l
  · exact .inl (parse_wait (by omega) h0 (by omega) h2)
  exact .inr (.inr ⟨h0, by omega, by omega⟩)
/-- what is wrong stays wrong, whatever comes behind -/
theorem parse_wrong : ∀ (n : Nat) (l c : Bs), l.length ≤ n → (parse l).2.2 ≠ 0 → parse (l ++ c) = parse l
  | 0, l, c, hn, he => by rw [parse_short (l := l) (by omega)] at he; exact absurd rfl he
  | n + 1, l, c, hn, he => by
    rcases parse_cases l with h | ⟨k, _, h1, h2⟩ | ⟨h0, h1, h2⟩
    · rw [h] at he; exact absurd rfl he
    · rw [h1, h2]
    · have hp := parse_msg h0 h1 h2
      rw [hp] at he
      have hd : (l.drop (4 + be4 l)).length = l.length - (4 + be4 l) := List.length_drop
      have ih := parse_wrong n (l.drop (4 + be4 l)) c (by omega) he
      have hb := be4_append c (l := l) (by omega)
      have e0 : (l ++ c).drop (4 + be4 l) = l.drop (4 + be4 l) ++ c := List.drop_append_of_le_length (by omega)
      have e1 : ((l ++ c).drop 4).take (be4 l) = (l.drop 4).take (be4 l) := by
        rw [List.drop_append_of_le_length (by omega), List.take_append_of_le_length (by rw [List.length_drop]; omega)]
      rw [parse_msg (l := l ++ c) (by omega) (by omega) (by rw [List.length_append]; omega), hb, e0, e1, ih, hp]
/-- what is left holds no whole message -/
theorem parse_left : ∀ (n : Nat) (l : Bs), l.length ≤ n → (parse l).2.2 = 0 → parse (parse l).2.1 = ([], (parse l).2.1, 0)
  | 0, l, hn, he => by
    have h := parse_short (l := l) (by omega)
    rw [h]; exact h
  | n + 1, l, hn, he => by
    rcases parse_cases l with h | ⟨k, hk, h1, h2⟩ | ⟨h0, h1, h2⟩
    · rw [h]; exact h
    · rw [h1] at he; exact absurd he hk
    · have hp := parse_msg h0 h1 h2
      rw [hp] at he ⊢
      have hd : (l.drop (4 + be4 l)).length = l.length - (4 + be4 l) := List.length_drop
      exact parse_left n (l.drop (4 + be4 l)) (by omega) he
/-- packed messages, one behind the other -/
def flat (ms : List Bs) : Bs := (ms.map frm).flatten
theorem flat_cons (m : Bs) (ms : List Bs) : flat (m :: ms) = frm m ++ flat ms := rfl
theorem flat_snoc (ms : List Bs) (m : Bs) : flat (ms ++ [m]) = flat ms ++ frm m := by simp [flat]
theorem parse_flat : ∀ (ms : List Bs) (r : Bs), (∀ m ∈ ms, 1 ≤ m.length ∧ m.length ≤ 65536) → parse (flat ms ++ r) = (ms ++ (parse r).1, (parse r).2)
  | [], r, _ => rfl
  | m :: ms, r, h => by
    rw [flat_cons, List.append_assoc, parse_frm _ _ (h m (by simp)).1 (h m (by simp)).2, parse_flat ms r fun x hx => h x (by simp [hx])]
    rfl
theorem flat_le : ∀ (ms : List Bs) (k : Nat), (∀ m ∈ ms, m.length ≤ k) → (flat ms).length ≤ ms.length * (4 + k)
  | [], k, _ => by simp [flat]
  | m :: ms, k, h => by
    rw [flat_cons, List.length_append, frm_length, List.length_cons, Nat.succ_mul]
    have := flat_le ms k fun x hx => h x (by simp [hx])
    have := h m (by simp)
    omega
/-- one step of a stream that is cut: what is told, what is left, and what still comes -/
theorem cut_step {l c r : Bs} {ms : List Bs} (h : parse (l ++ (c ++ r)) = (ms, [], 0)) :
    (parse (l ++ c)).2.2 = 0 ∧ parse (parse (l ++ c)).2.1 = ([], (parse (l ++ c)).2.1, 0) ∧ ∃ ms', ms = (parse (l ++ c)).1 ++ ms' ∧ parse ((parse (l ++ c)).2.1 ++ r) = (ms', [], 0) := by
  rw [← List.append_assoc] at h
  have h0 : (parse (l ++ c)).2.2 = 0 := by
    rcases Classical.em ((parse (l ++ c)).2.2 = 0) with h0 | h0
    · exact h0
    · rw [parse_wrong _ _ r (Nat.le_refl _) h0] at h
      rw [h]
  refine ⟨h0, parse_left _ _ (Nat.le_refl _) h0, (parse ((parse (l ++ c)).2.1 ++ r)).1, ?_⟩
  rw [parse_append _ _ r (Nat.le_refl _) h0] at h
  simp only [Prod.mk.injEq] at h
  exact ⟨h.1.symm, Prod.ext rfl h.2⟩

def HK (w : World) (H : Nat → Prop) (a b : World) : Prop := Keeps (fun k => w.heap.size ≤ k ∧ ¬ H k) a b
def HV (H : Nat → Prop) (v : Value) (b : Nat) : Prop := H b ∨ v.ownBlock = some b
theorem HK.row {w : World} {H : Nat → Prop} {a b : World} (h : HK w H a b) {e : TypeId} {v : Value} {xs : List Value} (r : RowAt a e v xs) (hv : ∀ k, v.ownBlock = some k → H k) : RowAt b e v xs :=
  r.keeps h fun k hk ⟨_, hn⟩ => hn (hv k hk)
/-- a reader that the call made, apart from H -/
def RL (w : World) (H : Nat → Prop) (r : Nat) (l : Bs) (e : Int) (W : World) : Prop :=
  ∃ F, Rd W F r l e ∧ (∀ b, F b → w.heap.size ≤ b ∧ ¬ H b) ∧ (∀ b, H b → b < W.heap.size) ∧ Keeps (fun _ => False) w W
section
variable {w W W2 : World} {H : Nat → Prop} {r : Nat} {l : Bs} {e : Int}
theorem RL.keeps (h : RL w H r l e W) : Keeps (fun _ => False) w W := by obtain ⟨_, _, _, _, h⟩ := h; exact h
theorem RL.step (h : RL w H r l e W) (hk : Keeps (fun _ => False) W W2) : RL w H r l e W2 := by
  obtain ⟨F, h1, h2, h3, h4⟩ := h
  exact ⟨F, h1.keeps hk fun _ _ => id, h2, fun b hb => Nat.lt_of_lt_of_le (h3 b hb) hk.size, h4.trans hk⟩
/-- what is held is written in a block that may be written, or made anew -/
theorem RL.write (h : RL w H r l e W) {K : Nat → Prop} (hk : Keeps K W W2) (hK : ∀ b, b < W.heap.size → K b → H b ∧ w.heap.size ≤ b) {H' : Nat → Prop} (hn : ∀ b, H' b → H b ∨ (W.heap.size ≤ b ∧ b < W2.heap.size)) : RL w H' r l e W2 := by
  obtain ⟨F, h1, h2, h3, h4⟩ := h
  refine ⟨F, h1.keeps hk fun b hf hb => (h2 b hf).2 (hK b (h1.lt hf) hb).1, fun b hf => ⟨(h2 b hf).1, fun hb => ?_⟩, fun b hb => ?_, h4.trans' hk fun b hb h => ?_⟩
  · rcases hn b hb with h | h
    · exact (h2 b hf).2 h
    · have := h1.lt hf; omega
  · rcases hn b hb with h | h
    · exact Nat.lt_of_lt_of_le (h3 b h) hk.size
    · exact h.2
  · have := (hK b (Nat.lt_of_lt_of_le hb h4.size) h).2; omega
theorem RL.sub (h : RL w H r l e W) {H' : Nat → Prop} (hs : ∀ b, H' b → H b) : RL w H' r l e W := by
  obtain ⟨F, h1, h2, h3, h4⟩ := h
  exact ⟨F, h1, fun b hf => ⟨(h2 b hf).1, fun hb => (h2 b hf).2 (hs b hb)⟩, fun b hb => h3 b (hs b hb), h4⟩
theorem rl_new (hk : Keeps (fun _ => False) w W) (hH : ∀ b, H b → b < W.heap.size) : Calls Tryd.prog 16 #[] W fun ev W2 => ev = .returned (.pointer (some ⟨W.heap.size, 0, none⟩)) ∧ RL w H W.heap.size [] 0 W2 ∧ Keeps (fun _ => False) W W2 := by
  refine (new_any W).mono ?_
  rintro ev W2 ⟨rfl, rfl⟩
  refine ⟨rfl, ⟨_, rd_new W, fun b hb => ⟨by have := hk.size; omega, fun h => by have := hH b h; omega⟩, fun b hb => by have := hH b hb; simp; omega, hk.alloc _⟩, (Keeps.refl _ _).alloc _⟩
def RlOut (w : World) (H : Nat → Prop) (r : Nat) (l : Bs) (W : World) (ev : Ending) (W2 : World) : Prop :=
  ∃ ov, ev = .returned (.tuple #[ov, .int .i64 (parse l).2.2]) ∧ RowAt W2 9 ov ((parse l).1.map sV) ∧ (∀ b, ov.ownBlock = some b → W.heap.size ≤ b) ∧ RL w (HV H ov) r (parse l).2.1 (parse l).2.2 W2 ∧ HK w H W W2
theorem rl_feed (g : Glob w) (h : RL w H r l 0 W) (c : Bs) (hl : l.length + c.length ≤ 140737488355328) (hm : (parse (l ++ c)).1.length ≤ 1099511627776) :
    Calls Tryd.prog 18 #[.pointer (some ⟨r, 0, none⟩), .string (mk c)] W (RlOut w H r (l ++ c) W) := by
  obtain ⟨F, h1, h2, h3, h4⟩ := h
  refine (feed_ok h1 (g.fresh h4) (fun b hb => by have := (h2 b hb).1; have := g.size; omega) c hl hm).mono ?_
  rintro ev W2 ⟨ov, F', rfl, a1, a2, a3, a4, a5⟩
  refine ⟨ov, rfl, a1, fun b hb => (a4 b hb).1, ⟨F', a2, fun b hb => ⟨?_, fun hh => ?_⟩, fun b hb => ?_, h4.trans' a5 fun b hb hf => ?_⟩, a5.mono fun b _ hf => h2 b hf⟩
  · rcases a3 b hb with h | h
    · exact (h2 b h).1
    · have := h4.size; omega
  · rcases hh with hh | hh
    · rcases a3 b hb with h | h
      · exact (h2 b h).2 hh
      · have := h3 b hh; omega
    · exact (a4 b hh).2 hb
  · rcases hb with hb | hb
    · exact Nat.lt_of_lt_of_le (h3 b hb) a5.size
    · exact a1.lt hb
  · have := (h2 b hf).1; omega
theorem rl_bad (h : RL w H r l e W) : Calls Tryd.prog 21 #[.pointer (some ⟨r, 0, none⟩)] W fun ev w' => ev = .returned (.bool (e != 0)) ∧ W = w' := by
  obtain ⟨F, h1, _⟩ := h; exact bad_any h1
theorem rl_left (h : RL w H r l e W) : Calls Tryd.prog 20 #[.pointer (some ⟨r, 0, none⟩)] W fun ev w' => ev = .returned (.int .i64 l.length) ∧ W = w' := by
  obtain ⟨F, h1, _⟩ := h; exact left_any h1
theorem rl_feed_bad (h : RL w H r l e W) (he : e ≠ 0) (s : ByteArray) : Calls Tryd.prog 18 #[.pointer (some ⟨r, 0, none⟩), .string s] W (BadOut e W) := by
  obtain ⟨F, h1, _⟩ := h; exact feed_bad h1 he s
end
end Go.Proofs.YtfijpnhnlpgkgaaDoor
