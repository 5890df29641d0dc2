/-
  Plain facts on the list of timers: what is set or falls due leaves each id there at most once, and how long the list is.
  No condition. No walk.
-/
import Derived.Test.YtfecgibdhglhiaaPlayDeed
namespace Go.Proofs.Ytfecgibdhglhiaa
theorem has_delL (L : List IA) (k : ByteArray) : hasL (delL L k) k = false := by
  unfold hasL delL
  rw [List.any_eq_false]
  intro x hx
  simp only [List.mem_filter, decide_eq_true_eq] at hx
  simpa using hx.2
theorem setL_uniq {L : List IA} (h : Uniq L) (k : ByteArray) (a : Int) : Uniq (setL L k a) := by
  unfold setL
  split
  · exact uniq_add (uniq_delL h k) (k, a) (has_delL L k)
  · exact h
theorem setL_len (L : List IA) (k : ByteArray) (a : Int) : (setL L k a).length ≤ L.length + 1 := by
  unfold setL
  split
  · have := delL_length_le L k
    simp; omega
  · omega
theorem dueL_facts (now : Int) : ∀ (n : Nat) (L : List IA), L.length ≤ n → Uniq L → Uniq (dueL now L).2 ∧ (dueL now L).2.length ≤ L.length ∧ (dueL now L).1.length ≤ L.length
  | 0, L, hn, hu => by
    have : L = [] := List.eq_nil_of_length_eq_zero (by omega)
    subst this
    rw [dueL_none rfl]
    exact ⟨hu, Nat.le_refl _, Nat.zero_le _⟩
  | n + 1, L, hn, hu => by
    rcases hm : minL L with _ | m
    · rw [dueL_none hm]; exact ⟨hu, Nat.le_refl _, Nat.zero_le _⟩
    · by_cases h : m.2 ≤ now
      · rw [dueL_some hm h]
        have hl := delL_lt (minL_mem hm)
        obtain ⟨h1, h2, h3⟩ := dueL_facts now n (delL L m.1) (by omega) (uniq_delL hu _)
        exact ⟨h1, by simp only; omega, by simp only [List.length_cons]; omega⟩
      · rw [dueL_late hm h]; exact ⟨hu, Nat.le_refl _, Nat.zero_le _⟩
end Go.Proofs.Ytfecgibdhglhiaa
