/-
  The map from ids to timers: what a lookup, a store and delete come to.
  Conditions: the block is a map from the ids of a list of timers to them.
-/
import Derived.Test.YtfecgibdhglhiaaHeapOps
import Derived.MapKept
import Derived.Maps.OwnSet
namespace Go.Proofs.Ytfecgibdhglhiaa
open Go.RowKit Go.MapKept
/-- Block mb is a map from the timers' ids to the timers. -/
def ByAt (w : World) (mb : Nat) (ts : List T) : Prop :=
  ∃ es clock, w.heap[mb]? = some (.map es clock) ∧ (es.toList.map (·.key)).Nodup ∧ (∀ x ∈ es.toList, ∃ t ∈ ts, x.key = .string t.id ∧ x.val = ptrT t) ∧
    ∀ t ∈ ts, ∃ x ∈ es.toList, x.key = .string t.id ∧ x.val = ptrT t
section
variable {w w' : World} {mb : Nat} {ts us : List T}
theorem ByAt.lt (h : ByAt w mb ts) : mb < w.heap.size := by obtain ⟨_, _, h1, _⟩ := h; exact lt_at h1
theorem ByAt.of_same (h : ByAt w mb ts) (hb : w'.heap[mb]? = w.heap[mb]?) : ByAt w' mb ts := by
  obtain ⟨es, clock, h1, h2⟩ := h
  exact ⟨es, clock, hb.trans h1, h2⟩
theorem ByAt.keeps (h : ByAt w mb ts) {F : Nat → Prop} (k : Keeps F w w') (hF : ¬ F mb) : ByAt w' mb ts := h.of_same (k.block mb h.lt hF)
/-- Only the ids and the blocks count. -/
theorem ByAt.congr (h : ByAt w mb ts) (h1 : ∀ t ∈ ts, ∃ u ∈ us, u.id = t.id ∧ u.blk = t.blk) (h2 : ∀ u ∈ us, ∃ t ∈ ts, u.id = t.id ∧ u.blk = t.blk) : ByAt w mb us := by
  obtain ⟨es, clock, a, b, c, d⟩ := h
  refine ⟨es, clock, a, b, fun x hx => ?_, fun u hu => ?_⟩
  · obtain ⟨t, ht, e1, e2⟩ := c x hx
    obtain ⟨u, hu, e3, e4⟩ := h1 t ht
    exact ⟨u, hu, by rw [e1, e3], by rw [e2]; unfold ptrT; rw [e4]⟩
  · obtain ⟨t, ht, e3, e4⟩ := h2 u hu
    obtain ⟨x, hx, e1, e2⟩ := d t ht
    exact ⟨x, hx, by rw [e1, e3], by rw [e2]; unfold ptrT; rw [e4]⟩
theorem ByAt.perm (h : ByAt w mb ts) (hp : us.Perm ts) : ByAt w mb us :=
  h.congr (fun t ht => ⟨t, hp.mem_iff.2 ht, rfl, rfl⟩) (fun u hu => ⟨u, hp.mem_iff.1 hu, rfl, rfl⟩)
theorem set_keeps (w : World) (mb : Nat) (o : Obj) : Keeps (fun b => b = mb) w { w with heap := w.heap.setIfInBounds mb o } :=
  ⟨rfl, rfl, rfl, by simp, fun k _ hn => by simp [Ne.symm hn]⟩
theorem find_string (es : List MapEntry) (k : ByteArray) (hk : ∀ x ∈ es, ∃ s, x.key = .string s) :
    (Instr.findNow .string (.string k) es 0 = some none ∧ ∀ x ∈ es, x.key ≠ .string k) ∨ ∃ j e, Instr.findNow .string (.string k) es 0 = some (some (j, e.val)) ∧ es[j]? = some e ∧ e.key = .string k := by
  have := findNow_spec (d := .string) (k := .string k) trivial es 0 (fun x hx => by obtain ⟨s, e⟩ := hk x hx; rw [e]; trivial)
  simpa using this
theorem ByAt.look_yes (h : ByAt w mb ts) {t : T} (ht : t ∈ ts) (hu : ∀ u ∈ ts, u.id = t.id → u.blk = t.blk) :
    (Instr.lookup 52 (.map (some mb)) (.string t.id) true).run Try.prog w = .ok (.tuple #[ptrT t, .bool true]) w := by
  obtain ⟨es, clock, a, b, c, d⟩ := h
  rcases find_string es.toList t.id (fun x hx => by obtain ⟨u, _, e, _⟩ := c x hx; exact ⟨_, e⟩) with ⟨_, h2⟩ | ⟨j, e, h1, h2, h3⟩
  · obtain ⟨x, hx, e1, _⟩ := d t ht
    exact absurd e1 (h2 x hx)
  · have he : e ∈ es.toList := List.mem_of_getElem? h2
    obtain ⟨u, hu', e1, e2⟩ := c e he
    rw [h3] at e1
    have e3 : u.id = t.id := by simpa using e1.symm
    have e4 : e.val = ptrT t := by rw [e2]; unfold ptrT; rw [hu u hu' e3]
    simp [Instr.lookup, run_underlying Try.underlying52, MapKept.run_getObj_map a, MapKept.run_checkKey (d := .string) Try.underlying9 (k := .string t.id) trivial, MapKept.run_findKey (d := .string) Try.underlying9 h1, e4, Result.andThen]
theorem ByAt.look_no (h : ByAt w mb ts) {k : ByteArray} (hn : ∀ t ∈ ts, t.id ≠ k) :
    (Instr.lookup 52 (.map (some mb)) (.string k) true).run Try.prog w = .ok (.tuple #[.pointer none, .bool false]) w := by
  obtain ⟨es, clock, a, b, c, d⟩ := h
  rcases find_string es.toList k (fun x hx => by obtain ⟨u, _, e, _⟩ := c x hx; exact ⟨_, e⟩) with ⟨h1, h2⟩ | ⟨j, e, h1, h2, h3⟩
  · simp [Instr.lookup, run_underlying Try.underlying52, MapKept.run_getObj_map a, MapKept.run_checkKey (d := .string) Try.underlying9 (k := .string k) trivial, MapKept.run_findKey (d := .string) Try.underlying9 h1, Result.andThen]
  · have he : e ∈ es.toList := List.mem_of_getElem? h2
    obtain ⟨u, hu', e1, _⟩ := c e he
    rw [h3] at e1
    exact absurd (by simpa using e1.symm) (hn u hu')
theorem ByAt.put (h : ByAt w mb ts) (x : T) (hn : ∀ t ∈ ts, t.id ≠ x.id) :
    ∃ w1, (Instr.mapUpdate 52 (.map (some mb)) (.string x.id) (ptrT x)).run Try.prog w = .ok () w1 ∧ ByAt w1 mb (ts ++ [x]) ∧ Keeps (fun b => b = mb) w w1 ∧ w1.heap.size = w.heap.size := by
  obtain ⟨es, clock, a, b, c, d⟩ := h
  rcases find_string es.toList x.id (fun x hx => by obtain ⟨u, _, e, _⟩ := c x hx; exact ⟨_, e⟩) with ⟨h1, h2⟩ | ⟨j, e, h1, h2, h3⟩
  · refine ⟨{ w with heap := w.heap.setIfInBounds mb (.map (es.push { key := .string x.id, val := ptrT x, born := clock }) (clock + 1)) }, ?_, ⟨es.push { key := .string x.id, val := ptrT x, born := clock }, clock + 1, (heap_set a).1, ?_, ?_, ?_⟩, set_keeps w mb _, by simp⟩
    · simp [Instr.mapUpdate, run_underlying Try.underlying52, MapKept.run_getObj_map a, MapKept.run_checkKey (d := .string) Try.underlying9 (k := .string x.id) trivial, MapKept.run_findKey (d := .string) Try.underlying9 h1, MapKept.run_setObj_map _ a, Result.andThen]
    · simp only [Array.toList_push, List.map_append, List.map_cons, List.map_nil]
      rw [List.nodup_append]
      refine ⟨b, by simp, ?_⟩
      intro k hk k2 hk2 e
      simp at hk2
      subst hk2 e
      obtain ⟨y, hy, e⟩ := List.mem_map.1 hk
      exact h2 y hy e
    · intro y hy
      simp only [Array.toList_push, List.mem_append, List.mem_singleton] at hy
      rcases hy with hy | rfl
      · obtain ⟨t, ht, e1, e2⟩ := c y hy
        exact ⟨t, List.mem_append.2 (.inl ht), e1, e2⟩
      · exact ⟨x, by simp, rfl, rfl⟩
    · intro t ht
      simp only [Array.toList_push, List.mem_append, List.mem_singleton] at ht ⊢
      rcases ht with ht | rfl
      · obtain ⟨y, hy, e⟩ := d t ht
        exact ⟨y, .inl hy, e⟩
      · exact ⟨_, .inr rfl, rfl, rfl⟩
  · have he : e ∈ es.toList := List.mem_of_getElem? h2
    obtain ⟨u, hu', e1, _⟩ := c e he
    rw [h3] at e1
    exact absurd (by simpa using e1.symm) (hn u hu')
/-- delete: what bears another id stays -/
theorem ByAt.del (h : ByAt w mb ts) (k : ByteArray) (us : List T) (h1 : ∀ t ∈ us, t ∈ ts ∧ t.id ≠ k) (h2 : ∀ t ∈ ts, t.id ≠ k → t ∈ us) :
    ∃ w1, (∀ ty, (Builtin.delete_ #[52, 9] ty #[.map (some mb), .string k]).run Try.prog w = .ok (.tuple #[]) w1) ∧ ByAt w1 mb us ∧ Keeps (fun b => b = mb) w w1 := by
  obtain ⟨es, clock, a, b, c, d⟩ := h
  rcases find_string es.toList k (fun x hx => by obtain ⟨u, _, e, _⟩ := c x hx; exact ⟨_, e⟩) with ⟨g1, g2⟩ | ⟨j, e, g1, g2, g3⟩
  · refine ⟨{ w with heap := w.heap.setIfInBounds mb (.map es clock) }, fun ty => ?_, ⟨es, clock, (heap_set a).1, b, ?_, ?_⟩, set_keeps w mb _⟩
    · simp [Builtin.delete_, run_underlying Try.underlying52, MapKept.run_getObj_map a, MapKept.run_checkKey (d := .string) Try.underlying9 (k := .string k) trivial, MapKept.run_findKey (d := .string) Try.underlying9 g1, MapKept.run_setObj_map _ a, Result.andThen]
    · intro x hx
      obtain ⟨t, ht, e1, e2⟩ := c x hx
      exact ⟨t, h2 t ht (fun e => g2 x hx (by rw [e1, e])), e1, e2⟩
    · intro t ht
      exact d t (h1 t ht).1
  · have hlt : j < es.size := by
      have := (List.getElem?_eq_some_iff.1 g2).1; simpa using this
    have hkeep : ∀ y, y ∈ es.toList → y.key ≠ .string k → y ∈ (es.eraseIdxIfInBounds j).toList := by
      intro y hy hyk
      obtain ⟨i, hi, e1⟩ := List.getElem_of_mem hy
      have hij : i ≠ j := fun e2 => by
        subst e2
        rw [List.getElem?_eq_getElem hi, e1] at g2
        cases g2; exact hyk g3
      unfold Array.eraseIdxIfInBounds
      rw [dif_pos hlt, Array.toList_eraseIdx]
      exact (List.mem_eraseIdx_iff_getElem).2 ⟨i, hi, hij, e1⟩
    have hsub : ∀ y, y ∈ (es.eraseIdxIfInBounds j).toList → y ∈ es.toList ∧ y.key ≠ .string k := by
      intro y hy
      unfold Array.eraseIdxIfInBounds at hy
      rw [dif_pos hlt, Array.toList_eraseIdx] at hy
      obtain ⟨i, hi, hij, e1⟩ := (List.mem_eraseIdx_iff_getElem).1 hy
      refine ⟨by rw [← e1]; exact List.getElem_mem hi, fun e2 => hij ?_⟩
      have hj : j < es.toList.length := by simpa using hlt
      have e3 : es.toList[j].key = .string k := by
        rw [List.getElem?_eq_getElem hj] at g2; cases g2; exact g3
      have hb2 := (List.pairwise_iff_getElem).1 b
      have e4 : es.toList[i].key = es.toList[j].key := by rw [e1, e2, e3]
      rcases Nat.lt_trichotomy i j with h | h | h
      · exact absurd (by rw [List.getElem_map, List.getElem_map]; exact e4) (hb2 i j (by simpa using hi) (by simpa using hj) h)
      · exact h
      · exact absurd (by rw [List.getElem_map, List.getElem_map]; exact e4.symm) (hb2 j i (by simpa using hj) (by simpa using hi) h)
    refine ⟨{ w with heap := w.heap.setIfInBounds mb (.map (es.eraseIdxIfInBounds j) clock) }, fun ty => ?_, ⟨es.eraseIdxIfInBounds j, clock, (heap_set a).1, ?_, ?_, ?_⟩, set_keeps w mb _⟩
    · simp [Builtin.delete_, run_underlying Try.underlying52, MapKept.run_getObj_map a, MapKept.run_checkKey (d := .string) Try.underlying9 (k := .string k) trivial, MapKept.run_findKey (d := .string) Try.underlying9 g1, MapKept.run_setObj_map _ a, Result.andThen]
    · unfold Array.eraseIdxIfInBounds
      rw [dif_pos hlt, Array.toList_eraseIdx]
      exact b.sublist ((List.eraseIdx_sublist _ _).map _)
    · intro x hx
      obtain ⟨hx1, hx2⟩ := hsub x hx
      obtain ⟨t, ht, e1, e2⟩ := c x hx1
      exact ⟨t, h2 t ht (fun e => hx2 (by rw [e1, e])), e1, e2⟩
    · intro t ht
      obtain ⟨t1, t2⟩ := h1 t ht
      obtain ⟨x, hx, e1, e2⟩ := d t t1
      exact ⟨x, hkeep x hx (fun e => t2 (by rw [e1] at e; simpa using e)), e1, e2⟩
end
end Go.Proofs.Ytfecgibdhglhiaa
