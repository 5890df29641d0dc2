/-
  The contracts of timer's exported functions over a plain list of ids and times: what each answers, and what the timers are behind it.
  Conditions: the timers lie in memory as Tm says; Set: at most 1024 of them, the count of sets is below a million; Stop, Due: at most 2000.
-/
import Derived.Test.YtfecgibdhglhiaaList
namespace Go.Proofs.Ytfecgibdhglhiaa
open Go.RowKit
/-- Timers in memory that are the plain list L; at most K were ever set; they lie in the blocks F. -/
def Tm (w : World) (F : Nat → Prop) (p : Nat) (L : List IA) (K : Nat) : Prop :=
  ∃ mb v ts last, Raw w p mb v ts last ∧ HeapAll ts ts.length ∧ Abs ts L ∧ (∀ t ∈ ts, t.num ≤ last) ∧ 0 ≤ last ∧ last ≤ K ∧ F = FootR p mb v ts
def bad (k : ByteArray) : Bool := k.toList.isEmpty || decide (64 < k.size)
def hasL (L : List IA) (k : ByteArray) : Bool := L.any fun x => decide (x.1 = k)
def setE (L : List IA) (k : ByteArray) : Int := if bad k then 1 else if !hasL L k && L.length == 1024 then 4 else 0
def setL (L : List IA) (k : ByteArray) (a : Int) : List IA := if setE L k = 0 then delL L k ++ [(k, a)] else L
def atL (L : List IA) (k : ByteArray) : Option Int := (L.find? fun x => decide (x.1 = k)).map (·.2)
section
variable {w w' : World} {F : Nat → Prop} {p : Nat} {L : List IA} {K : Nat}
theorem Tm.lt (h : Tm w F p L K) {b : Nat} (hf : F b) : b < w.heap.size := by
  obtain ⟨mb, v, ts, last, h1, _, _, _, _, _, rfl⟩ := h
  exact h1.lt hf
theorem Tm.keeps (h : Tm w F p L K) {G : Nat → Prop} (k : Keeps G w w') (hG : ∀ b, F b → ¬ G b) : Tm w' F p L K := by
  obtain ⟨mb, v, ts, last, h1, h2, h3, h4, h5, h6, rfl⟩ := h
  exact ⟨mb, v, ts, last, h1.keeps k hG, h2, h3, h4, h5, h6, rfl⟩
theorem Tm.drewN (h : Tm w F p L K) (n : Nat) : Tm (w.drewN n) F p L K := h.keeps (G := fun _ => False) ((Keeps.refl _ _).drewN n) fun _ _ => id
theorem Tm.mono (h : Tm w F p L K) {K' : Nat} (hk : K ≤ K') : Tm w F p L K' := by
  obtain ⟨mb, v, ts, last, h1, h2, h3, h4, h5, h6, rfl⟩ := h
  exact ⟨mb, v, ts, last, h1, h2, h3, h4, h5, by omega, rfl⟩
theorem hasL_iff {ts : List T} (h : Abs ts L) {k : ByteArray} : hasL L k = true ↔ ∃ t ∈ ts, t.id = k := by
  unfold hasL
  rw [List.any_eq_true]
  constructor
  · rintro ⟨x, hx, e⟩
    obtain ⟨t, ht, rfl⟩ := (abs_mem h).1 hx
    exact ⟨t, ht, of_decide_eq_true e⟩
  · rintro ⟨t, ht, rfl⟩
    exact ⟨pr t, (abs_mem h).2 ⟨t, ht, rfl⟩, decide_eq_true rfl⟩
theorem delL_none {L : List IA} {k : ByteArray} (h : hasL L k = false) : delL L k = L := by
  unfold delL
  rw [List.filter_eq_self]
  intro x hx
  unfold hasL at h
  rw [List.any_eq_false] at h
  have := h x hx
  refine decide_eq_true fun e => this (decide_eq_true e)

theorem newL (w : World) : Calls Try.prog 9 #[] w fun e w' => ∃ p F, e = .returned (.pointer (some ⟨p, 0, none⟩)) ∧ Tm w' F p [] 0 ∧ (∀ b, F b → w.heap.size ≤ b) ∧ Keeps (fun _ => False) w w' := by
  refine (newAt w).mono ?_
  rintro e w' ⟨p, mb, rfl, hr, h1, h2, hk⟩
  refine ⟨p, _, rfl, ⟨mb, _, [], 0, hr, fun c c0 cn => by simp at cn, ⟨[], List.Perm.refl _, List.Pairwise.nil, rfl⟩, by simp, by omega, by omega, rfl⟩, ?_, hk⟩
  rintro b ((hb | hb | ⟨t, ht, _⟩) | hb)
  · omega
  · simp [Value.ownBlock] at hb
  · simp at ht
  · omega
def nextV : Option IA → Value
  | none => .tuple #[.string ByteArray.empty, .int .u64 0, .bool false]
  | some m => .tuple #[.string m.1, .int .u64 m.2, .bool true]
theorem lenL (h : Tm w F p L K) : Calls Try.prog 12 #[.pointer (some ⟨p, 0, none⟩)] w fun e w' => e = .returned (.int .i64 L.length) ∧ w = w' := by
  obtain ⟨mb, v, ts, last, h1, h2, h3, h4, h5, h6, rfl⟩ := h
  obtain ⟨a, c, hv⟩ := h1.heap.val
  rw [abs_nil h3]
  exact len_any p a ts.length c w (by rw [h1.heap.cell, hv])
theorem nextL (h : Tm w F p L K) : Calls Try.prog 20 #[.pointer (some ⟨p, 0, none⟩)] w fun e w' =>
    e = .returned (nextV (minL L)) ∧ ∃ n, w' = w.drewN n := by
  obtain ⟨mb, v, ts, last, h1, h2, h3, h4, h5, h6, rfl⟩ := h
  by_cases h0 : 0 < ts.length
  · rw [abs_min h3 h2 h0]
    exact nextAt h1 h0
  · have e : ts = [] := List.eq_nil_of_length_eq_zero (by omega)
    subst e
    have e : L = [] := List.eq_nil_of_length_eq_zero (by rw [abs_nil h3]; rfl)
    subst e
    exact (next0At h1).mono fun e w' ⟨a, b⟩ => ⟨a, 0, by rw [← b]; rfl⟩
theorem find_abs {ts : List T} (h : Abs ts L) (hi : ∀ t ∈ ts, ∀ u ∈ ts, t.id = u.id → t = u) {t : T} (ht : t ∈ ts) : atL L t.id = some t.at_ := by
  unfold atL
  cases hf : L.find? (fun x => decide (x.1 = t.id)) with
  | none =>
    rw [List.find?_eq_none] at hf
    exact absurd (decide_eq_true rfl) (hf (pr t) ((abs_mem h).2 ⟨t, ht, rfl⟩))
  | some x =>
    have h1 := List.find?_some hf
    obtain ⟨u, hu, rfl⟩ := (abs_mem h).1 (List.mem_of_find?_eq_some hf)
    have : u = t := hi u hu t ht (of_decide_eq_true h1)
    subst this; rfl
theorem find_none {ts : List T} (h : Abs ts L) {k : ByteArray} (hn : ∀ t ∈ ts, t.id ≠ k) : atL L k = none := by
  unfold atL
  rw [List.find?_eq_none.2]; · rfl
  intro x hx
  obtain ⟨u, hu, rfl⟩ := (abs_mem h).1 hx
  exact fun e => hn u hu (of_decide_eq_true e)
theorem atL_any (h : Tm w F p L K) (k : ByteArray) : Calls Try.prog 17 #[.pointer (some ⟨p, 0, none⟩), .string k] w fun e w' => e = .returned (.tuple #[.int .u64 ((atL L k).getD 0), .bool (atL L k).isSome]) ∧ w = w' := by
  obtain ⟨mb, v, ts, last, h1, h2, h3, h4, h5, h6, rfl⟩ := h
  by_cases hk : ∃ t ∈ ts, t.id = k
  · obtain ⟨t, ht, rfl⟩ := hk
    rw [find_abs h3 h1.ids ht]
    exact atAt h1 ht
  · rw [find_none h3 fun t ht e => hk ⟨t, ht, e⟩]
    exact at0At h1 fun t ht e => hk ⟨t, ht, e⟩
theorem stopL (h : Tm w F p L K) (hl : L.length ≤ 2000) (k : ByteArray) : Calls Try.prog 13 #[.pointer (some ⟨p, 0, none⟩), .string k] w fun e w' =>
    e = .returned (.bool (hasL L k)) ∧ (∃ F', Tm w' F' p (delL L k) K ∧ ∀ b, F' b → F b) ∧ Keeps F w w' := by
  obtain ⟨mb, v, ts, last, h1, h2, h3, h4, h5, h6, rfl⟩ := h
  have hn := abs_nil h3
  by_cases hk : ∃ t ∈ ts, t.id = k
  · have hb := (hasL_iff h3).2 hk
    obtain ⟨t, ht, rfl⟩ := hk
    obtain ⟨i, hi, rfl⟩ := g_of_mem ht
    rw [hb]
    refine (stopAt h1 hi (by omega)).mono ?_
    rintro e w' ⟨rfl, ⟨v', hv', hr⟩, hk⟩
    have hp := removeL_perm hi
    have hsub : ∀ t ∈ removeL ts i, t ∈ ts := fun t ht => hp.mem_iff.1 (List.mem_cons_of_mem _ ht)
    exact ⟨rfl, ⟨_, ⟨mb, v', removeL ts i, last, hr, removeL_heap hi h2, abs_del h3 hp (ids_ne hp h1.ids h1.heap.blks), fun t ht => h4 t (hsub t ht), h5, h6, rfl⟩, fun b hf => hf.sub hv' hsub⟩, hk⟩
  · have hb : hasL L k = false := by
      cases e : hasL L k
      · rfl
      · exact absurd ((hasL_iff h3).1 e) hk
    rw [hb, delL_none hb]
    refine (stop0At h1 fun t ht e => hk ⟨t, ht, e⟩).mono ?_
    rintro e w' ⟨rfl, rfl⟩
    exact ⟨rfl, ⟨_, ⟨mb, v, ts, last, h1, h2, h3, h4, h5, h6, rfl⟩, fun _ h => h⟩, Keeps.refl _ _⟩
theorem dueL_any (h : Tm w F p L K) (hl : L.length ≤ 2000) (now : Int) : Calls Try.prog 11 #[.pointer (some ⟨p, 0, none⟩), .int .u64 now] w fun e w' =>
    (∃ sv, e = .returned sv ∧ w'.ownsRow w.heap.size 9 1 sv (dueL now L).1.length ((dueL now L).1.map strV) ∧ ((dueL now L).1 = [] → sv = .slice none 0 0)) ∧ (∃ F', Tm w' F' p (dueL now L).2 K ∧ ∀ b, F' b → F b) ∧ Keeps F w w' := by
  obtain ⟨mb, v, ts, last, h1, h2, h3, h4, h5, h6, rfl⟩ := h
  have hn := abs_nil h3
  obtain ⟨d1, d2, d3, d4⟩ := dueT_ok now ts.length ts L rfl h3 h2 h1.ids h1.heap.blks
  refine (dueAt h1 now (by omega)).mono ?_
  rintro e w' ⟨sv, v', rfl, g1, g2, g3, g4, g5⟩
  rw [d1] at g1 g2
  exact ⟨⟨sv, rfl, g1, g2⟩, ⟨_, ⟨mb, v', _, last, g4, d3, d2, fun t ht => h4 t (d4 t ht), h5, h6, rfl⟩, fun b hf => hf.sub g3 d4⟩, g5⟩
theorem set_perm {ts : List T} {i : Nat} (hi : i < ts.length) (x : T) : ∃ rs, (g ts i :: rs).Perm ts ∧ (ts.set i x).Perm (x :: rs) := by
  refine ⟨ts.take i ++ ts.drop (i + 1), ?_, ?_⟩
  · rw [g_lt hi]
    have h : ts = ts.take i ++ ts[i] :: ts.drop (i + 1) := by rw [← List.drop_eq_getElem_cons hi, List.take_append_drop]
    conv => rhs; rw [h]
    exact List.perm_middle.symm
  · rw [List.set_eq_take_append_cons_drop, if_pos hi]
    exact List.perm_middle
theorem setL_any (h : Tm w F p L K) (hl : L.length ≤ 1024) (hK : K < 1000000) (k : ByteArray) (a : Int) : Calls Try.prog 10 #[.pointer (some ⟨p, 0, none⟩), .string k, .int .u64 a] w fun e w' =>
    e = .returned (.int .i64 (setE L k)) ∧ (∃ F', Tm w' F' p (setL L k a) (K + 1) ∧ ∀ b, F' b → F b ∨ w.heap.size ≤ b) ∧ Keeps F w w' := by
  have hT := h
  obtain ⟨mb, v, ts, last, h1, h2, h3, h4, h5, h6, rfl⟩ := h
  have hn := abs_nil h3
  by_cases hb : bad k = true
  · have e1 : setE L k = 1 := by simp [setE, hb]
    have e2 : setL L k a = L := by unfold setL; rw [e1]; simp
    rw [e1, e2]
    have hres : Calls Try.prog 10 #[.pointer (some ⟨p, 0, none⟩), .string k, .int .u64 a] w fun e w' => e = .returned (.int .i64 1) ∧ w = w' := by
      by_cases hk : 64 < k.size
      · exact setBad1 h1 k a hk
      · have hk2 : k.toList.isEmpty = true := by simpa [bad, hk] using hb
        have hk3 : k = ByteArray.empty := by
          have hd : k.data.toList = [] := by rw [ByteArray.toList_eq] at hk2; simpa using hk2
          obtain ⟨d⟩ := k
          have : d = #[] := by simpa using hd
          rw [this]; rfl
        subst hk3
        exact setBad0 h1 a
    refine hres.mono ?_
    rintro e w' ⟨rfl, rfl⟩
    exact ⟨rfl, ⟨_, hT.mono (by omega), fun b hb => .inl hb⟩, Keeps.refl _ _⟩
  · have hb' : k.toList.isEmpty = false ∧ ¬ 64 < k.size := by simpa [bad] using hb
    have hk0 : ¬ k.toList = [] := by simpa using hb'.1
    by_cases hk : ∃ t ∈ ts, t.id = k
    · have hh := (hasL_iff h3).2 hk
      have e1 : setE L k = 0 := by simp [setE, hb, hh]
      have e2 : setL L k a = delL L k ++ [(k, a)] := by unfold setL; rw [e1]; simp
      rw [e1, e2]
      obtain ⟨t, ht, rfl⟩ := hk
      obtain ⟨i, hi, rfl⟩ := g_of_mem ht
      refine (setOld h1 hi a (by omega) h5 (by omega) hk0 (by omega)).mono ?_
      rintro e w' ⟨rfl, hr, hk⟩
      obtain ⟨rs, p1, p2⟩ := set_perm hi { g ts i with at_ := a, num := last + 1 }
      have hpf : (fixL (ts.set i { g ts i with at_ := a, num := last + 1 }) i ts.length).Perm (ts.set i { g ts i with at_ := a, num := last + 1 }) := fixL_perm hi (by rw [List.length_set]; exact Nat.le_refl _)
      have hsub : ∀ t ∈ rs, t ∈ ts := fun t ht => p1.mem_iff.1 (List.mem_cons_of_mem _ ht)
      have hmem : ∀ t ∈ fixL (ts.set i { g ts i with at_ := a, num := last + 1 }) i ts.length, t = { g ts i with at_ := a, num := last + 1 } ∨ t ∈ ts := fun t ht => by
        rcases List.mem_cons.1 (p2.mem_iff.1 (hpf.mem_iff.1 ht)) with h | h
        · exact .inl h
        · exact .inr (hsub t h)
      have hheap : HeapAll (fixL (ts.set i { g ts i with at_ := a, num := last + 1 }) i ts.length) (fixL (ts.set i { g ts i with at_ := a, num := last + 1 }) i ts.length).length := by
        rw [fixL_length, List.length_set]
        exact fixL_heap hi (by rw [List.length_set]; exact Nat.le_refl _) (by have := but_set hi { g ts i with at_ := a, num := last + 1 } h2; rw [List.length_set] at this; exact this)
      refine ⟨rfl, ⟨_, ⟨mb, v, _, last + 1, hr, hheap, ?_, ?_, by omega, by omega, rfl⟩, ?_⟩, hk⟩
      · have := abs_add (abs_del h3 p1 (ids_ne p1 h1.ids h1.heap.blks)) { g ts i with at_ := a, num := last + 1 } (hpf.trans p2) (fun t ht => by have := h4 t (hsub t ht); show t.num < last + 1; omega)
        exact this
      · intro t ht
        rcases hmem t ht with rfl | h
        · exact Int.le_refl _
        · have := h4 t h; omega
      · rintro b (hf | hf)
        · rcases hf with hf | hf | ⟨t, ht, hf⟩
          · exact .inl (.inl (.inl hf))
          · exact .inl (.inl (.inr (.inl hf)))
          · rcases hmem t ht with rfl | h
            · exact .inl (.inl (.inr (.inr ⟨_, mem_g hi, hf⟩)))
            · exact .inl (.inl (.inr (.inr ⟨t, h, hf⟩)))
        · exact .inl (.inr hf)
    · have hh : hasL L k = false := by
        cases e : hasL L k
        · rfl
        · exact absurd ((hasL_iff h3).1 e) hk
      have hnk : ∀ t ∈ ts, t.id ≠ k := fun t ht e => hk ⟨t, ht, e⟩
      by_cases hf : L.length = 1024
      · have e1 : setE L k = 4 := by simp [setE, hb, hh, hf]
        have e2 : setL L k a = L := by unfold setL; rw [e1]; simp
        rw [e1, e2]
        refine (setFull h1 k a hk0 (by omega) hnk (by omega)).mono ?_
        rintro e w' ⟨rfl, rfl⟩
        exact ⟨rfl, ⟨_, hT.mono (by omega), fun b hb => .inl hb⟩, Keeps.refl _ _⟩
      · have e1 : setE L k = 0 := by simp [setE, hb, hf]
        have e2 : setL L k a = L ++ [(k, a)] := by unfold setL; rw [e1, delL_none hh]; simp
        rw [e1, e2]
        refine (setNew h1 k a (by omega) h5 (by omega) hk0 (by omega) hnk).mono ?_
        rintro e w' ⟨rfl, ⟨v', hv', hr⟩, hk⟩
        have hp := pushL_perm (ts := ts) ⟨w.heap.size, k, a, last + 1⟩
        refine ⟨rfl, ⟨_, ⟨mb, v', _, last + 1, hr, pushL_heap _ h2, ?_, ?_, by omega, by omega, rfl⟩, ?_⟩, hk⟩
        · exact abs_add h3 ⟨w.heap.size, k, a, last + 1⟩ hp (fun t ht => by have := h4 t ht; show t.num < last + 1; omega)
        · intro t ht
          rcases List.mem_cons.1 (hp.mem_iff.1 ht) with rfl | h
          · exact Int.le_refl _
          · have := h4 t h; omega
        · rintro b (hf | hf)
          · rcases hf with hf | hf | ⟨t, ht, hf⟩
            · exact .inl (.inl (.inl hf))
            · rcases hv' b hf with h | h
              · exact .inl (.inl (.inr (.inl h)))
              · exact .inr h
            · rcases List.mem_cons.1 (hp.mem_iff.1 ht) with rfl | h
              · exact .inr (by rw [← hf]; exact Nat.le_refl _)
              · exact .inl (.inl (.inr (.inr ⟨t, h, hf⟩)))
          · exact .inl (.inr hf)
end
end Go.Proofs.Ytfecgibdhglhiaa
