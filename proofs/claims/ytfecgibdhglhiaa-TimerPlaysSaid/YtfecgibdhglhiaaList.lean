/-
  Timers as a plain list of ids and times, in the order in which they were set, and how a heap of timers stands to it: its first is the least, what is popped goes, what is set comes last.
  Plain lists: no condition, no walk.
-/
import Derived.Test.YtfecgibdhglhiaaDue
namespace Go.Proofs.Ytfecgibdhglhiaa
/-- an id and a time -/
abbrev IA := ByteArray × Int
def pr (t : T) : IA := (t.id, t.at_)
def delL (L : List IA) (k : ByteArray) : List IA := L.filter fun x => decide (x.1 ≠ k)
def minF (m y : IA) : IA := if y.2 < m.2 then y else m
def minL : List IA → Option IA
  | [] => none
  | x :: xs => some (xs.foldl minF x)
theorem delL_length_le (L : List IA) (k : ByteArray) : (delL L k).length ≤ L.length := List.length_filter_le _ _
theorem foldl_mem (xs : List IA) : ∀ x : IA, xs.foldl minF x ∈ x :: xs := by
  induction xs with
  | nil => intro x; simp
  | cons y ys ih =>
    intro x
    rw [List.foldl_cons]
    rcases List.mem_cons.1 (ih (minF x y)) with h | h
    · rw [h]; unfold minF; split <;> simp
    · exact List.mem_cons_of_mem _ (List.mem_cons_of_mem _ h)
theorem minL_mem {L : List IA} {m : IA} (h : minL L = some m) : m ∈ L := by
  cases L with
  | nil => simp [minL] at h
  | cons x xs => simp only [minL, Option.some.injEq] at h; subst h; exact foldl_mem xs x
theorem delL_lt {L : List IA} {m : IA} (h : m ∈ L) : (delL L m.1).length < L.length := by
  rcases Nat.lt_or_ge (delL L m.1).length L.length with h1 | h1
  · exact h1
  · have h2 : (delL L m.1).length = L.length := Nat.le_antisymm (delL_length_le _ _) h1
    have h3 := (List.filter_sublist (p := fun x : IA => decide (x.1 ≠ m.1)) (l := L)).eq_of_length h2
    have h4 : m ∈ L.filter fun x => decide (x.1 ≠ m.1) := by rw [h3]; exact h
    simp at h4
def dueL (now : Int) (L : List IA) : List ByteArray × List IA :=
  match _h : minL L with
  | none => ([], L)
  | some m => if m.2 ≤ now then (m.1 :: (dueL now (delL L m.1)).1, (dueL now (delL L m.1)).2) else ([], L)
  termination_by L.length
  decreasing_by all_goals exact delL_lt (minL_mem _h)

theorem dueL_some {now : Int} {L : List IA} {m : IA} (hm : minL L = some m) (h : m.2 ≤ now) : dueL now L = (m.1 :: (dueL now (delL L m.1)).1, (dueL now (delL L m.1)).2) := by
  conv => lhs; unfold dueL
  split
  · rename_i e; rw [hm] at e; cases e
  · rename_i m' e; rw [hm] at e; cases e; rw [if_pos h]
theorem dueL_late {now : Int} {L : List IA} {m : IA} (hm : minL L = some m) (h : ¬ m.2 ≤ now) : dueL now L = ([], L) := by
  unfold dueL
  split
  · rfl
  · rename_i m' e; rw [hm] at e; cases e; rw [if_neg h]
theorem dueL_none {now : Int} {L : List IA} (hm : minL L = none) : dueL now L = ([], L) := by
  unfold dueL
  split
  · rfl
  · rename_i m' e; rw [hm] at e; cases e
/-- the timers in the order in which they were set -/
def Abs (ts : List T) (L : List IA) : Prop := ∃ us : List T, us.Perm ts ∧ us.Pairwise (fun a b => a.num < b.num) ∧ L = us.map pr

theorem foldl_min (xs : List T) : ∀ (x : T) (seen : List T), (∀ u ∈ seen, less u x = false) → (∀ y ∈ xs, x.num < y.num) → xs.Pairwise (fun a b => a.num < b.num) →
    ∃ m ∈ x :: xs, (xs.map pr).foldl minF (pr x) = pr m ∧ ∀ u ∈ seen ++ xs, less u m = false := by
  induction xs with
  | nil => intro x seen hs _ _; exact ⟨x, by simp, rfl, by simpa using hs⟩
  | cons y ys ih =>
    intro x seen hs hx hp
    rw [List.pairwise_cons] at hp
    have hxy := hx y (by simp)
    rw [List.map_cons, List.foldl_cons]
    by_cases h : y.at_ < x.at_
    · have e : minF (pr x) (pr y) = pr y := by unfold minF pr; rw [if_pos h]
      rw [e]
      obtain ⟨m, hm, e2, h2⟩ := ih y (seen ++ [y]) (fun u hu => by
        rcases List.mem_append.1 hu with h1 | h1
        · have := hs u h1; rw [nless_iff] at this ⊢; omega
        · simp at h1; subst h1; exact nless_refl _) hp.1 hp.2
      exact ⟨m, List.mem_cons_of_mem _ hm, e2, by simpa using h2⟩
    · have e : minF (pr x) (pr y) = pr x := by unfold minF pr; rw [if_neg h]
      rw [e]
      obtain ⟨m, hm, e2, h2⟩ := ih x (seen ++ [y]) (fun u hu => by
        rcases List.mem_append.1 hu with h1 | h1
        · exact hs u h1
        · simp at h1; subst h1; rw [nless_iff]; omega) (fun z hz => hx z (List.mem_cons_of_mem _ hz)) hp.2
      refine ⟨m, ?_, e2, by simpa using h2⟩
      rcases List.mem_cons.1 hm with h1 | h1
      · rw [h1]; simp
      · exact List.mem_cons_of_mem _ (List.mem_cons_of_mem _ h1)
theorem num_inj {us : List T} (hp : us.Pairwise (fun a b => a.num < b.num)) {a b : T} (ha : a ∈ us) (hb : b ∈ us) (e : a.num = b.num) : a = b := by
  obtain ⟨i, hi, rfl⟩ := List.getElem_of_mem ha
  obtain ⟨j, hj, rfl⟩ := List.getElem_of_mem hb
  rcases Nat.lt_trichotomy i j with h | h | h
  · have := List.pairwise_iff_getElem.1 hp i j hi hj h; omega
  · subst h; rfl
  · have := List.pairwise_iff_getElem.1 hp j i hj hi h; omega
theorem abs_min {ts : List T} {L : List IA} (h : Abs ts L) (hh : HeapAll ts ts.length) (h0 : 0 < ts.length) : minL L = some (pr (g ts 0)) := by
  obtain ⟨us, hp, hn, rfl⟩ := h
  have hg : g ts 0 ∈ us := hp.mem_iff.2 (mem_g h0)
  cases us with
  | nil => simp at hg
  | cons x xs =>
    rw [List.pairwise_cons] at hn
    obtain ⟨m, hm, e, h2⟩ := foldl_min xs x [x] (by simp [nless_refl]) hn.1 hn.2
    have h3 : less (g ts 0) m = false := h2 _ (by simpa using hg)
    obtain ⟨i, hi, e2⟩ := g_of_mem (hp.mem_iff.1 hm)
    have h4 : less m (g ts 0) = false := by rw [← e2]; exact heap_first hh i hi
    have h5 : m = g ts 0 := by
      refine num_inj (List.pairwise_cons.2 hn) hm hg ?_
      rw [nless_iff] at h3 h4; omega
    simp only [List.map_cons, minL]
    rw [e, h5]
theorem abs_nil {ts : List T} {L : List IA} (h : Abs ts L) : L.length = ts.length := by
  obtain ⟨us, hp, _, rfl⟩ := h
  rw [List.length_map, hp.length_eq]
theorem abs_mem {ts : List T} {L : List IA} (h : Abs ts L) {x : IA} : x ∈ L ↔ ∃ t ∈ ts, pr t = x := by
  obtain ⟨us, hp, _, rfl⟩ := h
  rw [List.mem_map]
  exact ⟨fun ⟨t, ht, e⟩ => ⟨t, hp.mem_iff.1 ht, e⟩, fun ⟨t, ht, e⟩ => ⟨t, hp.mem_iff.2 ht, e⟩⟩
theorem map_filter_pr (us : List T) (k : ByteArray) : delL (us.map pr) k = (us.filter fun t => decide (t.id ≠ k)).map pr := by
  unfold delL; rw [List.filter_map]; rfl
/-- one goes -/
theorem abs_del {ts rs : List T} {L : List IA} (h : Abs ts L) {x : T} (hp : (x :: rs).Perm ts) (hne : ∀ t ∈ rs, t.id ≠ x.id) : Abs rs (delL L x.id) := by
  obtain ⟨us, hu, hn, rfl⟩ := h
  refine ⟨us.filter fun t => decide (t.id ≠ x.id), ?_, hn.filter _, map_filter_pr _ _⟩
  refine ((hu.trans hp.symm).filter _).trans ?_
  rw [List.filter_cons_of_neg (by simp), List.filter_eq_self.2 (fun t ht => by simpa using hne t ht)]
/-- one comes, behind the others -/
theorem abs_add {ts rs : List T} {L : List IA} (h : Abs ts L) (x : T) (hp : rs.Perm (x :: ts)) (hn : ∀ t ∈ ts, t.num < x.num) : Abs rs (L ++ [pr x]) := by
  obtain ⟨us, hu, hn', rfl⟩ := h
  refine ⟨us ++ [x], ((List.perm_append_singleton _ _).trans (hu.cons x)).trans hp.symm, ?_, by simp⟩
  rw [List.pairwise_append]
  refine ⟨hn', by simp, fun a ha b hb => ?_⟩
  simp at hb; subst hb
  exact hn a (hu.mem_iff.1 ha)
theorem ids_ne {ts rs : List T} {x : T} (hp : (x :: rs).Perm ts) (hids : ∀ t ∈ ts, ∀ u ∈ ts, t.id = u.id → t = u) (hb : ts.Pairwise (fun a b => a.blk ≠ b.blk)) : ∀ t ∈ rs, t.id ≠ x.id := by
  intro t ht e
  have e2 := hids t (hp.mem_iff.1 (List.mem_cons_of_mem _ ht)) x (hp.mem_iff.1 (List.mem_cons_self ..)) e
  subst e2
  have hn := (hp.pairwise_iff (fun h => Ne.symm h)).2 hb
  exact (List.pairwise_cons.1 hn).1 _ ht rfl
theorem HeapAt.blks {w : World} {p : Nat} {m l v : Value} {ts : List T} (h : HeapAt w p m l v ts) : ts.Pairwise (fun a b => a.blk ≠ b.blk) :=
  List.pairwise_iff_getElem.2 fun a b ha hb hab e => by
    have := h.inj ha hb (by rw [g_lt ha, g_lt hb]; exact e)
    omega
theorem dueT_ok (now : Int) (n : Nat) : ∀ (ts : List T) (L : List IA), ts.length = n → Abs ts L → HeapAll ts ts.length → (∀ t ∈ ts, ∀ u ∈ ts, t.id = u.id → t = u) → ts.Pairwise (fun a b => a.blk ≠ b.blk) →
    (dueT now ts).1 = (dueL now L).1 ∧ Abs (dueT now ts).2 (dueL now L).2 ∧ HeapAll (dueT now ts).2 (dueT now ts).2.length ∧ ∀ t ∈ (dueT now ts).2, t ∈ ts := by
  induction n using Nat.strongRecOn with
  | _ n ih =>
    intro ts L hn ha hh hi hb
    unfold dueT
    by_cases h0 : 0 < ts.length
    · have hm := abs_min ha hh h0
      by_cases hat : (g ts 0).at_ ≤ now
      · rw [dif_pos ⟨h0, hat⟩]
        have hp := popL_perm h0
        have hsub : ∀ t ∈ popL ts, t ∈ ts := fun t ht => hp.mem_iff.1 (List.mem_cons_of_mem _ ht)
        have hne := ids_ne hp hi hb
        have hb2 : (popL ts).Pairwise (fun a b => a.blk ≠ b.blk) := (List.pairwise_cons.1 ((hp.pairwise_iff (fun h => Ne.symm h)).2 hb)).2
        have hd := abs_del ha hp hne
        obtain ⟨i1, i2, i3, i4⟩ := ih (popL ts).length (by rw [popL_length]; omega) (popL ts) (delL L (g ts 0).id) rfl hd (popL_heap h0 hh) (fun t ht u hu e => hi t (hsub t ht) u (hsub u hu) e) hb2
        have e : dueL now L = ((g ts 0).id :: (dueL now (delL L (g ts 0).id)).1, (dueL now (delL L (g ts 0).id)).2) := dueL_some hm hat
        rw [e]
        exact ⟨by rw [i1], i2, i3, fun t ht => hsub t (i4 t ht)⟩
      · rw [dif_neg (fun h => hat h.2)]
        have e : dueL now L = ([], L) := dueL_late hm hat
        rw [e]
        exact ⟨rfl, ha, hh, fun _ h => h⟩
    · rw [dif_neg (fun h => h0 h.1)]
      have e1 : L = [] := List.eq_nil_of_length_eq_zero (by rw [abs_nil ha]; omega)
      subst e1
      have e : dueL now [] = ([], []) := dueL_none rfl
      rw [e]
      exact ⟨rfl, ha, hh, fun _ h => h⟩
end Go.Proofs.Ytfecgibdhglhiaa
