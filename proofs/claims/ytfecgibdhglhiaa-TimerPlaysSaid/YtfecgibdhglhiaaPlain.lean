/-
  Plain facts on lists of ids and times: what goes and what stays, and the 1024 ids of the statement TimerFull.
  No walk.
-/
import Derived.Test.YtfecgibdhglhiaaExam
namespace Go.Proofs.Ytfecgibdhglhiaa
open Go.RowKit
theorem delL_uniq {L : List IA} (hn : (L.map (·.1)).Nodup) {k : ByteArray} (h : hasL L k = true) : (delL L k).length + 1 = L.length := by
  induction L with
  | nil => simp [hasL] at h
  | cons x xs ih =>
    rw [List.map_cons, List.nodup_cons] at hn
    by_cases e : x.1 = k
    · have h1 : delL (x :: xs) k = delL xs k := by unfold delL; rw [List.filter_cons_of_neg (by simp [e])]
      have h2 : hasL xs k = false := by
        unfold hasL
        rw [List.any_eq_false]
        intro y hy e2
        exact hn.1 (List.mem_map.2 ⟨y, hy, by rw [e, of_decide_eq_true e2]⟩)
      rw [h1, delL_none h2]; rfl
    · have h1 : delL (x :: xs) k = x :: delL xs k := by unfold delL; rw [List.filter_cons_of_pos (by simp [e])]
      have h2 : hasL xs k = true := by
        unfold hasL at h ⊢
        rw [List.any_cons] at h
        rcases Bool.or_eq_true_iff.1 h with h | h
        · exact absurd (of_decide_eq_true h) e
        · exact h
      rw [h1, List.length_cons, ih hn.2 h2]; rfl
theorem uniq_del {L : List IA} (hn : (L.map (·.1)).Nodup) (k : ByteArray) : ((delL L k).map (·.1)).Nodup := hn.sublist ((List.filter_sublist).map _)
theorem has_del (L : List IA) (k : ByteArray) : hasL (delL L k) k = false := by
  unfold hasL delL
  rw [List.any_eq_false]
  intro x hx e
  have := (List.mem_filter.1 hx).2
  exact (of_decide_eq_true this) (of_decide_eq_true e)
theorem has_del_ne (L : List IA) {k j : ByteArray} (h : j ≠ k) : hasL (delL L k) j = hasL L j := by
  rw [Bool.eq_iff_iff]
  unfold hasL delL
  rw [List.any_eq_true, List.any_eq_true]
  constructor
  · rintro ⟨x, hx, e⟩; exact ⟨x, (List.mem_filter.1 hx).1, e⟩
  · rintro ⟨x, hx, e⟩
    exact ⟨x, List.mem_filter.2 ⟨hx, decide_eq_true (by rw [of_decide_eq_true e]; exact h)⟩, e⟩
theorem has_add (L : List IA) (x : IA) (j : ByteArray) : hasL (L ++ [x]) j = (hasL L j || decide (x.1 = j)) := by
  unfold hasL; rw [List.any_append]; simp
theorem uniq_add {L : List IA} (hn : (L.map (·.1)).Nodup) (x : IA) (h : hasL L x.1 = false) : ((L ++ [x]).map (·.1)).Nodup := by
  rw [List.map_append, List.nodup_append]
  refine ⟨hn, by simp, ?_⟩
  intro a ha b hb e
  simp only [List.map_cons, List.map_nil, List.mem_singleton] at hb
  subst hb e
  obtain ⟨y, hy, e⟩ := List.mem_map.1 ha
  unfold hasL at h
  rw [List.any_eq_false] at h
  exact h y hy (decide_eq_true e)
theorem at_add {L : List IA} (x : IA) (h : hasL L x.1 = false) : atL (L ++ [x]) x.1 = some x.2 := by
  unfold atL
  rw [List.find?_append, List.find?_eq_none.2]
  · simp
  · unfold hasL at h
    rw [List.any_eq_false] at h
    exact h

def keyF (n : Nat) : ByteArray := strOfNums [(n : Int) / 32, 48 + (n : Int) % 32]
def fullL (n : Nat) : List IA := (List.range n).map fun i => (keyF i, (i : Int))
theorem u8_inj {a b : Nat} (ha : a < 256) (hb : b < 256) (h : UInt8.ofNat a = UInt8.ofNat b) : a = b := by
  have := congrArg UInt8.toNat h
  simpa [UInt8.toNat_ofNat', Nat.mod_eq_of_lt ha, Nat.mod_eq_of_lt hb] using this
theorem strOfNums_inj {a b c d : Int} (h : strOfNums [a, b] = strOfNums [c, d]) : UInt8.ofNat a.toNat = UInt8.ofNat c.toNat ∧ UInt8.ofNat b.toNat = UInt8.ofNat d.toNat := by
  have := congrArg (fun s : ByteArray => s.data.toList) h
  simpa [strOfNums] using this
theorem keyF_inj {i j : Nat} (hi : i < 1024) (hj : j < 1024) (h : keyF i = keyF j) : i = j := by
  obtain ⟨h1, h2⟩ := strOfNums_inj h
  have e1 := u8_inj (by omega) (by omega) h1
  have e2 := u8_inj (by omega) (by omega) h2
  omega
theorem fullL_has {n : Nat} {k : ByteArray} : hasL (fullL n) k = true ↔ ∃ i, i < n ∧ keyF i = k := by
  unfold hasL fullL
  rw [List.any_eq_true]
  constructor
  · rintro ⟨x, hx, e⟩
    obtain ⟨i, hi, rfl⟩ := List.mem_map.1 hx
    exact ⟨i, List.mem_range.1 hi, of_decide_eq_true e⟩
  · rintro ⟨i, hi, e⟩
    exact ⟨_, List.mem_map.2 ⟨i, List.mem_range.2 hi, rfl⟩, decide_eq_true e⟩
theorem fullL_length (n : Nat) : (fullL n).length = n := by simp [fullL]
theorem fullL_succ (n : Nat) : fullL (n + 1) = fullL n ++ [(keyF n, (n : Int))] := by simp [fullL, List.range_succ]
theorem keyF_bad (n : Nat) : bad (keyF n) = false := by rw [bad_eq]; rfl
theorem fullL_no {n : Nat} (h : n < 1024) : hasL (fullL n) (keyF n) = false := by
  cases e : hasL (fullL n) (keyF n)
  · rfl
  · obtain ⟨i, hi, e2⟩ := fullL_has.1 e
    have := keyF_inj (by omega) h e2
    omega
theorem full_setE {n : Nat} (h : n < 1024) : setE (fullL n) (keyF n) = 0 := by
  unfold setE
  rw [keyF_bad, fullL_length]
  have : (n == 1024) = false := by simp; omega
  rw [this]; simp
theorem full_setL {n : Nat} (h : n < 1024) : setL (fullL n) (keyF n) n = fullL (n + 1) := by
  unfold setL
  rw [full_setE h, delL_none (fullL_no h), fullL_succ]; simp
theorem fullL_uniq (n : Nat) (h : n ≤ 1024) : ((fullL n).map (·.1)).Nodup := by
  induction n with
  | zero => simp [fullL]
  | succ n ih => rw [fullL_succ]; exact uniq_add (ih (by omega)) _ (fullL_no (by omega))
def kNew : ByteArray := ⟨#[110, 101, 119]⟩
theorem keyF_size (n : Nat) : (keyF n).data.size = 2 := by simp [keyF, strOfNums]
theorem full_new (n : Nat) : hasL (fullL n) kNew = false := by
  cases e : hasL (fullL n) kNew
  · rfl
  · obtain ⟨i, hi, e2⟩ := fullL_has.1 e
    have := keyF_size i
    rw [e2] at this
    simp [kNew] at this
theorem end1 : setE (fullL 1024) kNew = 4 := by
  unfold setE
  rw [bad_eq, full_new, fullL_length]; rfl
theorem end1' (a : Int) : setL (fullL 1024) kNew a = fullL 1024 := by unfold setL; rw [end1]; rfl
theorem key96 : keyF 96 = ⟨#[3, 48]⟩ := by rfl
theorem key0 : keyF 0 = ⟨#[0, 48]⟩ := by rfl
theorem end2 : setE (fullL 1024) (keyF 96) = 0 := by
  unfold setE
  rw [keyF_bad, fullL_has.2 ⟨96, by omega, rfl⟩]; rfl
def L1 (a : Int) : List IA := delL (fullL 1024) (keyF 96) ++ [(keyF 96, a)]
theorem end2' (a : Int) : setL (fullL 1024) (keyF 96) a = L1 a := by unfold setL; rw [end2]; rfl
theorem L1_length (a : Int) : (L1 a).length = 1024 := by
  unfold L1
  rw [List.length_append, List.length_singleton, delL_uniq (fullL_uniq 1024 (Nat.le_refl _)) (fullL_has.2 ⟨96, by omega, rfl⟩), fullL_length]
theorem L1_uniq (a : Int) : ((L1 a).map (·.1)).Nodup := uniq_add (uniq_del (fullL_uniq 1024 (Nat.le_refl _)) _) _ (has_del _ _)
theorem end3 (a : Int) : hasL (L1 a) (keyF 0) = true := by
  unfold L1
  rw [has_add, has_del_ne _ (fun e => by have := keyF_inj (by omega) (by omega) e; omega), fullL_has.2 ⟨0, by omega, rfl⟩]; rfl
def L2 (a : Int) : List IA := delL (L1 a) (keyF 0)
theorem L2_length (a : Int) : (L2 a).length = 1023 := by
  have := delL_uniq (L1_uniq a) (end3 a)
  rw [L1_length] at this
  unfold L2; omega
theorem L2_no (a : Int) : hasL (L2 a) kNew = false := by
  have h0 : kNew ≠ keyF 0 := fun e => by have := keyF_size 0; rw [← e] at this; simp [kNew] at this
  have h1 : kNew ≠ keyF 96 := fun e => by have := keyF_size 96; rw [← e] at this; simp [kNew] at this
  unfold L2 L1
  rw [has_del_ne _ h0, has_add, has_del_ne _ h1, full_new, decide_eq_false (Ne.symm h1)]; rfl
theorem end4 (a : Int) : setE (L2 a) kNew = 0 := by
  unfold setE
  rw [bad_eq, L2_no, L2_length]; rfl
theorem end4' (a : Int) : setL (L2 a) kNew a = L2 a ++ [(kNew, a)] := by
  unfold setL; rw [end4, delL_none (L2_no a)]; rfl
theorem end5 (a : Int) : atL (L2 a ++ [(kNew, a)]) kNew = some a := at_add (kNew, a) (L2_no a)
theorem end6 (a : Int) : (L2 a ++ [(kNew, a)]).length = 1024 := by rw [List.length_append, L2_length]; rfl
end Go.Proofs.Ytfecgibdhglhiaa
