/-
  Plain laws on what is due: in two steps as in one, all by their times, what is left, and how many.
  No walk.
-/
import Derived.Test.YtfecgibdhglhiaaPlain
namespace Go.Proofs.Ytfecgibdhglhiaa
def Uniq (L : List IA) : Prop := (L.map (·.1)).Nodup
theorem fold_split (xs : List IA) : ∀ x : IA, ∃ A m B, x :: xs = A ++ m :: B ∧ xs.foldl minF x = m ∧ (∀ y ∈ A, m.2 < y.2) ∧ ∀ y ∈ B, m.2 ≤ y.2 := by
  generalize hn : xs.length = n
  induction n generalizing xs with
  | zero =>
    intro x
    obtain rfl : xs = [] := List.eq_nil_of_length_eq_zero hn
    exact ⟨[], x, [], rfl, rfl, by simp, by simp⟩
  | succ n ih0 =>
    intro x
    obtain ⟨ys, y, rfl⟩ : ∃ ys y, xs = ys ++ [y] := ⟨xs.dropLast, xs.getLast (by intro h; subst h; simp at hn), (List.dropLast_concat_getLast _).symm⟩
    have ih := ih0 ys (by simpa using hn)
    obtain ⟨A, m, B, e, hf, hA, hB⟩ := ih x
    rw [List.foldl_append, hf]
    by_cases h : y.2 < m.2
    · refine ⟨x :: ys, y, [], by simp, by simp [minF, h], ?_, by simp⟩
      intro z hz
      rw [e] at hz
      rcases List.mem_append.1 hz with h1 | h1
      · have := hA z h1; omega
      · rcases List.mem_cons.1 h1 with h2 | h2
        · subst h2; exact h
        · have := hB z h2; omega
    · refine ⟨A, m, B ++ [y], by rw [← List.cons_append, e]; simp, by simp [minF, h], hA, ?_⟩
      intro z hz
      rcases List.mem_append.1 hz with h1 | h1
      · exact hB z h1
      · simp at h1; subst h1; omega
theorem minL_split {L : List IA} {m : IA} (h : minL L = some m) : ∃ A B, L = A ++ m :: B ∧ (∀ y ∈ A, m.2 < y.2) ∧ ∀ y ∈ B, m.2 ≤ y.2 := by
  cases L with
  | nil => simp [minL] at h
  | cons x xs =>
    simp only [minL, Option.some.injEq] at h
    obtain ⟨A, m', B, e, hf, hA, hB⟩ := fold_split xs x
    rw [hf] at h; subst h
    exact ⟨A, B, e, hA, hB⟩
theorem del_mid {A B : List IA} {m : IA} (hu : Uniq (A ++ m :: B)) : delL (A ++ m :: B) m.1 = A ++ B := by
  unfold Uniq at hu
  rw [List.map_append, List.map_cons, List.nodup_append] at hu
  obtain ⟨_, h2, h3⟩ := hu
  rw [List.nodup_cons] at h2
  unfold delL
  rw [List.filter_append, List.filter_cons_of_neg (by simp), List.filter_eq_self.2, List.filter_eq_self.2]
  · intro x hx
    exact decide_eq_true fun e => h2.1 (List.mem_map.2 ⟨x, hx, e⟩)
  · intro x hx
    exact decide_eq_true fun e => h3 x.1 (List.mem_map.2 ⟨x, hx, rfl⟩) m.1 (by simp) e
theorem uniq_delL {L : List IA} (h : Uniq L) (k : ByteArray) : Uniq (delL L k) := uniq_del h k
theorem minL_none {L : List IA} (h : minL L = none) : L = [] := by
  cases L with
  | nil => rfl
  | cons x xs => simp [minL] at h
/-- induction along Due -/
theorem due_ind (now : Int) {P : List IA → Prop} (h0 : ∀ L, (∀ x ∈ L, now < x.2) → P L) (h1 : ∀ L m, Uniq L → minL L = some m → m.2 ≤ now → P (delL L m.1) → P L) (L : List IA) (hu : Uniq L) : P L := by
  generalize hn : L.length = n
  induction n using Nat.strongRecOn generalizing L with
  | _ n ih =>
    cases hm : minL L with
    | none => rw [minL_none hm]; exact h0 [] (by simp)
    | some m =>
      by_cases h : m.2 ≤ now
      · exact h1 L m hu hm h (ih _ (by rw [← hn]; exact delL_lt (minL_mem hm)) _ (uniq_delL hu _) rfl)
      · refine h0 L fun x hx => ?_
        obtain ⟨A, B, e, hA, hB⟩ := minL_split hm
        rw [e] at hx
        rcases List.mem_append.1 hx with h2 | h2
        · have := hA x h2; omega
        · rcases List.mem_cons.1 h2 with h3 | h3
          · subst h3; omega
          · have := hB x h3; omega
theorem dueL_stop {now : Int} {L : List IA} (h : ∀ x ∈ L, now < x.2) : dueL now L = ([], L) := by
  cases hm : minL L with
  | none => exact dueL_none hm
  | some m => exact dueL_late hm (by have := h m (minL_mem hm); omega)
theorem due_count (now : Int) {L : List IA} (hu : Uniq L) : (dueL now L).1.length + (dueL now L).2.length = L.length := by
  refine due_ind now (P := fun L => (dueL now L).1.length + (dueL now L).2.length = L.length) ?_ ?_ L hu
  · intro L h; rw [dueL_stop h]; simp
  · intro L m hu hm hl ih
    rw [dueL_some hm hl]
    have : (delL L m.1).length + 1 = L.length := delL_uniq hu (by
      unfold hasL; rw [List.any_eq_true]; exact ⟨m, minL_mem hm, decide_eq_true rfl⟩)
    simp only [List.length_cons]; omega
theorem due_rest (now : Int) {L : List IA} (hu : Uniq L) : Uniq (dueL now L).2 ∧ (∀ x ∈ (dueL now L).2, x ∈ L ∧ now < x.2) ∧ ∀ k ∈ (dueL now L).1, hasL L k = true := by
  refine due_ind now (P := fun L => Uniq L → (Uniq (dueL now L).2 ∧ (∀ x ∈ (dueL now L).2, x ∈ L ∧ now < x.2) ∧ ∀ k ∈ (dueL now L).1, hasL L k = true)) ?_ ?_ L hu hu
  · intro L h hu; rw [dueL_stop h]; exact ⟨hu, fun x hx => ⟨hx, h x hx⟩, by simp⟩
  · intro L m _ hm hl ih hu
    rw [dueL_some hm hl]
    obtain ⟨i1, i2, i3⟩ := ih (uniq_delL hu _)
    refine ⟨i1, fun x hx => ⟨(List.mem_filter.1 (i2 x hx).1).1, (i2 x hx).2⟩, fun k hk => ?_⟩
    rcases List.mem_cons.1 hk with h | h
    · subst h; unfold hasL; rw [List.any_eq_true]; exact ⟨m, minL_mem hm, decide_eq_true rfl⟩
    · have := i3 k h
      unfold hasL at this ⊢
      rw [List.any_eq_true] at this ⊢
      obtain ⟨x, hx, e⟩ := this
      exact ⟨x, (List.mem_filter.1 hx).1, e⟩
/-- first up to a, then up to b -/
theorem due_two {a b : Int} (hab : a ≤ b) {L : List IA} (hu : Uniq L) : (dueL a L).1 ++ (dueL b (dueL a L).2).1 = (dueL b L).1 ∧ (dueL b (dueL a L).2).2 = (dueL b L).2 := by
  refine due_ind a (P := fun L => (dueL a L).1 ++ (dueL b (dueL a L).2).1 = (dueL b L).1 ∧ (dueL b (dueL a L).2).2 = (dueL b L).2) ?_ ?_ L hu
  · intro L h; rw [dueL_stop h]; simp
  · intro L m hu hm hl ih
    rw [dueL_some hm hl, dueL_some hm (Int.le_trans hl hab)]
    exact ⟨by simp only [List.cons_append]; rw [ih.1], ih.2⟩
/-- all by their times -/
def byT (L : List IA) (N : Nat) : List ByteArray := (List.range N).flatMap fun (a : Nat) => (L.filter fun x => decide (x.2 = (a : Int))).map (·.1)
theorem due_byT (now : Nat) {L : List IA} (hu : Uniq L) (hp : ∀ x ∈ L, 0 ≤ x.2) : (dueL now L).1 = byT L (now + 1) := by
  refine due_ind now (P := fun L => (∀ x ∈ L, 0 ≤ x.2) → (dueL now L).1 = byT L (now + 1)) ?_ ?_ L hu hp
  · intro L h _
    rw [dueL_stop h]
    unfold byT
    symm
    rw [List.flatMap_eq_nil_iff]
    intro a ha
    rw [List.map_eq_nil_iff, List.filter_eq_nil_iff]
    intro x hx e
    have := h x hx
    have := of_decide_eq_true e
    have := List.mem_range.1 ha
    omega
  · intro L m hu hm hl ih hp
    rw [dueL_some hm hl, ih fun x hx => hp x (List.mem_filter.1 hx).1]
    obtain ⟨A, B, e, hA, hB⟩ := minL_split hm
    have hm0 := hp m (minL_mem hm)
    subst e
    rw [del_mid hu]
    obtain ⟨k, hk⟩ : ∃ k : Nat, m.2 = k := ⟨m.2.toNat, by omega⟩
    obtain ⟨r, hr⟩ : ∃ r, now + 1 = k + (r + 1) := ⟨now - k, by omega⟩
    unfold byT
    rw [hr, List.range_add, List.flatMap_append, List.flatMap_append]
    have z1 : ∀ C : List IA, (∀ y ∈ C, m.2 ≤ y.2) → (List.range k).flatMap (fun (a : Nat) => (C.filter fun x => decide (x.2 = (a : Int))).map (·.1)) = [] := by
      intro C hC
      rw [List.flatMap_eq_nil_iff]
      intro a ha
      rw [List.map_eq_nil_iff, List.filter_eq_nil_iff]
      intro x hx e
      have := hC x hx
      have := of_decide_eq_true e
      have := List.mem_range.1 ha
      omega
    rw [z1 (A ++ B) (fun y hy => (List.mem_append.1 hy).elim (fun h => by have := hA y h; omega) (hB y)),
      z1 (A ++ m :: B) (fun y hy => (List.mem_append.1 hy).elim (fun h => by have := hA y h; omega) (fun h => (List.mem_cons.1 h).elim (fun h => by subst h; omega) (hB y)))]
    rw [List.range_succ_eq_map]
    simp only [List.map_cons, List.flatMap_cons, Nat.add_zero, List.nil_append]
    have f1 : A.filter (fun x => decide (x.2 = (k : Int))) = [] := by
      rw [List.filter_eq_nil_iff]; intro x hx e
      have := hA x hx; have := of_decide_eq_true e; omega
    rw [List.filter_append, f1, List.filter_append, f1, List.filter_cons_of_pos (a := m) (l := B) (p := fun x : IA => decide (x.2 = (k : Int))) (decide_eq_true hk)]
    simp only [List.nil_append, List.map_cons, List.cons_append, List.cons.injEq, true_and]
    congr 1
    have same : ∀ (l l' : List Nat) (f g : Nat → List ByteArray), l = l' → (∀ a ∈ l, f a = g a) → l.flatMap f = l'.flatMap g := by
      intro l l' f g h h2
      subst h
      induction l with
      | nil => rfl
      | cons a l ih => rw [List.flatMap_cons, List.flatMap_cons, h2 a (by simp), ih fun b hb => h2 b (List.mem_cons_of_mem _ hb)]
    refine same _ _ _ _ rfl fun a ha => ?_
    rw [List.filter_append, List.filter_append, List.filter_cons_of_neg (a := m) (l := B) (p := fun x : IA => decide (x.2 = (a : Int)))]
    intro e
    have := of_decide_eq_true e
    obtain ⟨j, hj, e2⟩ := List.mem_map.1 ha
    obtain ⟨i, _, e3⟩ := List.mem_map.1 hj
    omega
end Go.Proofs.Ytfecgibdhglhiaa
