/-
  What popL, removeL and a push do to a list of timers; the walk of Stop where there is one of that id.
  Conditions: the timers lie in memory as Raw says, and there are at most 2000.
-/
import Derived.Test.YtfecgibdhglhiaaRaw
namespace Go.Proofs.Ytfecgibdhglhiaa
open Go.RowKit
theorem split_last {l : List T} {n : Nat} (h : l.length = n + 1) : (g l n :: l.take n).Perm l := by
  have e : l = l.take n ++ [g l n] := by
    rw [g_lt (by omega)]
    have := List.take_succ_eq_append_getElem (l := l) (i := n) (by omega)
    rw [← this, ← h, List.take_length]
  conv => rhs; rw [e]
  exact (List.perm_append_singleton _ _).symm
theorem popL_perm {ts : List T} (h0 : 0 < ts.length) : (g ts 0 :: popL ts).Perm ts := by
  obtain ⟨n, hn⟩ : ∃ n, ts.length = n + 1 := ⟨ts.length - 1, by omega⟩
  unfold popL
  rw [hn, Nat.add_sub_cancel]
  have hp := (downL_perm (ts := swp ts 0 n) (i := 0) (n := n) (by rw [swp_length]; omega)).trans (swp_perm (by omega) (by omega))
  have hl : (downL (swp ts 0 n) 0 n).1.length = n + 1 := by rw [hp.length_eq, hn]
  have hg : g (downL (swp ts 0 n) 0 n).1 n = g ts 0 := by
    by_cases e : n = 0
    · subst e
      have : downL (swp ts 0 0) 0 0 = (swp ts 0 0, 0) := by unfold downL; rw [dif_neg (by omega)]
      rw [this, g_swp (by omega) (by omega), if_pos rfl]
    · rw [downL_past _ _ _ _ (by omega) (by rw [swp_length]; omega) (Nat.le_refl _), g_swp (by omega) (by omega), if_pos rfl]
  have := split_last hl
  rw [hg] at this
  exact this.trans hp
theorem heap_take {l : List T} {n : Nat} (h : HeapAll l n) : HeapAll (l.take n) n := fun c c0 cn => by
  rw [g_take cn, g_take (by omega)]; exact h c c0 cn
theorem popL_length (ts : List T) : (popL ts).length = ts.length - 1 := by
  unfold popL; rw [List.length_take, downL_length, swp_length]; omega
theorem popL_heap {ts : List T} (h0 : 0 < ts.length) (h : HeapAll ts ts.length) : HeapAll (popL ts) (popL ts).length := by
  obtain ⟨n, hn⟩ : ∃ n, ts.length = n + 1 := ⟨ts.length - 1, by omega⟩
  rw [popL_length, hn, Nat.add_sub_cancel]
  unfold popL
  rw [hn, Nat.add_sub_cancel]
  by_cases e : n = 0
  · intro c c0 cn; omega
  · refine heap_take (downL_heap (by omega) (by rw [swp_length]; omega) ⟨fun c c0 cn cp => ?_, fun _ _ _ _ h => absurd h (Nat.lt_irrefl _)⟩)
    rw [g_swp (by omega) (by omega), g_swp (by omega) (by omega), if_neg (by omega), if_neg (by omega), if_neg (by omega), if_neg (by omega)]
    exact h c c0 (by omega)
theorem removeL_length (ts : List T) (i : Nat) : (removeL ts i).length = ts.length - 1 := by
  unfold removeL; rw [List.length_take]
  split
  · omega
  · rw [fixL_length, swp_length]; omega
theorem removeL_perm {ts : List T} {i : Nat} (hi : i < ts.length) : (g ts i :: removeL ts i).Perm ts := by
  obtain ⟨n, hn⟩ : ∃ n, ts.length = n + 1 := ⟨ts.length - 1, by omega⟩
  unfold removeL
  rw [hn, Nat.add_sub_cancel]
  by_cases e : i = n
  · rw [if_pos e]; subst e; exact split_last hn
  · rw [if_neg e]
    have hp := (fixL_perm (ts := swp ts i n) (i := i) (n := n) (by omega) (by rw [swp_length]; omega)).trans (swp_perm (by omega) (by omega))
    have hg : g (fixL (swp ts i n) i n) n = g ts i := by
      rw [fixL_past (by omega) (by rw [swp_length]; omega) (Nat.le_refl _), g_swp (by omega) (by omega), if_pos rfl]
    have := split_last (l := fixL (swp ts i n) i n) (n := n) (by rw [hp.length_eq, hn])
    rw [hg] at this
    exact this.trans hp
theorem removeL_heap {ts : List T} {i : Nat} (hi : i < ts.length) (h : HeapAll ts ts.length) : HeapAll (removeL ts i) (removeL ts i).length := by
  obtain ⟨n, hn⟩ : ∃ n, ts.length = n + 1 := ⟨ts.length - 1, by omega⟩
  rw [removeL_length, hn, Nat.add_sub_cancel]
  unfold removeL
  rw [hn, Nat.add_sub_cancel]
  by_cases e : i = n
  · rw [if_pos e]; exact heap_take fun c c0 cn => h c c0 (by omega)
  · rw [if_neg e]
    refine heap_take (fixL_heap (by omega) (by rw [swp_length]; omega) ⟨fun c c0 cn cne cpe => ?_, fun c c0 cn cp i0 => ?_⟩)
    · rw [g_swp (by omega) (by omega), g_swp (by omega) (by omega), if_neg (by omega), if_neg (by omega), if_neg (by omega), if_neg (by omega)]
      exact h c c0 (by omega)
    · rw [g_swp (by omega) (by omega), g_swp (by omega) (by omega), if_neg (by omega), if_neg (by omega), if_neg (by omega), if_neg (by omega)]
      have h1 := h c c0 (by omega)
      have h2 := h i i0 (by omega)
      rw [cp] at h1
      exact nless_trans h1 h2
theorem pushL_heap {ts : List T} (x : T) (h : HeapAll ts ts.length) : HeapAll (upL (ts ++ [x]) ts.length) (upL (ts ++ [x]) ts.length).length := by
  rw [upL_length, List.length_append, List.length_singleton]
  refine upL_heap (by omega) (by simp) ⟨fun c c0 cn cne => ?_, fun c c0 cn cp _ => by omega⟩
  have e : ∀ k, k < ts.length → g (ts ++ [x]) k = g ts k := fun k hk => by simp [g, List.getElem?_append, hk]
  rw [e c (by omega), e _ (by omega)]
  exact h c c0 (by omega)
theorem pushL_perm {ts : List T} (x : T) : (upL (ts ++ [x]) ts.length).Perm (x :: ts) :=
  (upL_perm (by simp)).trans (List.perm_append_singleton _ _)
section
variable {w w' : World} {p mb : Nat} {v : Value} {ts us : List T} {last : Int}
theorem HeapAt.drew {m l : Value} (h : HeapAt w p m l v ts) : HeapAt w.drew p m l v ts := ⟨h.own, h.row, h.tim⟩
theorem stopAt (h : Raw w p mb v ts last) {i : Nat} (hi : i < ts.length) (hb : ts.length ≤ 2000) : Calls Try.prog 13 #[.pointer (some ⟨p, 0, none⟩), .string (g ts i).id] w fun e w' => e = .returned (.bool true) ∧
    (∃ v', v'.ownBlock = v.ownBlock ∧ Raw w' p mb v' (removeL ts i) last) ∧ Keeps (FootR p mb v ts) w w' := by
  have ht := mem_g hi
  have hp := removeL_perm hi
  have hsub : ∀ t ∈ removeL ts i, t ∈ ts := fun t ht => hp.mem_iff.1 (List.mem_cons_of_mem _ ht)
  have q1 := h.heap.cell1
  have q2 := h.bym.look_yes ht fun u hu e => by rw [h.ids u hu _ ht e]
  obtain ⟨w1, r1, r2, r3⟩ := h.bym.del (g ts i).id (removeL ts i) (fun t ht' => ⟨hsub t ht', fun e => by
      have e2 := h.ids t (hsub t ht') _ ht e
      subst e2
      obtain ⟨j, hj, e3⟩ := g_of_mem ht'
      have hn : (g ts i :: removeL ts i).Pairwise (fun a b => a.blk ≠ b.blk) := by
        refine (hp.pairwise_iff (fun h => Ne.symm h)).2 (List.pairwise_iff_getElem.2 fun a b ha hb hab e4 => ?_)
        have := h.heap.inj ha hb (by rw [g_lt ha, g_lt hb]; exact e4)
        omega
      exact (List.pairwise_cons.1 hn).1 _ ht' rfl⟩)
    (fun t ht' hne => by
      rcases List.mem_cons.1 (hp.mem_iff.2 ht') with e | e
      · subst e; exact absurd rfl hne
      · exact e)
  have h1 : HeapAt w1 p (.map (some mb)) (.int .u64 last) v ts := h.heap.keeps r3 fun b hb e => h.apart (e ▸ hb)
  have q3 : w1.cell? ⟨(g ts i).blk, 3, none⟩ = some (.int .i64 i) := by rw [cell_at (h1.tim i hi)]; rfl
  have hc := heapRemoveAt h1.drew hi hb
  have hfin : ∀ w2 : World, (∃ v', v'.ownBlock = v.ownBlock ∧ HeapAt w2 p (.map (some mb)) (.int .u64 last) v' (removeL ts i)) → Keeps (Foot p v ts) w1.drew w2 → (∃ v', v'.ownBlock = v.ownBlock ∧ Raw w2 p mb v' (removeL ts i) last) ∧ Keeps (FootR p mb v ts) w w2 := by
    rintro w2 ⟨v', e1, h2⟩ hk
    exact ⟨⟨v', e1, h2, r2.keeps (w := w1.drew) hk h.apart, fun t ht u hu e => h.ids t (hsub t ht) u (hsub u hu) e⟩, (r3.mono fun _ _ e => .inr e).drew.trans' hk fun _ _ hf => .inl hf⟩
  have HC := Lib.hid hc
  have HF := Lib.hid hfin
  unfold ptrT at q2
  clear hc hfin h h1 r2 r3 ht hp hsub hi hb
  go_enter Try.func13, Try.ntmps13
  go_wp2
  refine wp_region_still_tail 6 (by kernel_rfl) (by kernel_rfl) ?_
  simp only [List.take_succ_cons, List.take_zero, List.drop_succ_cons, List.drop_zero]
  repeat (first | still_step | (refine wpStill_step (fun K hK => ?_); go_simp; refine ⟨_, (heap_any _ _).mono (fun e w' ⟨h1, h2⟩ => ⟨h1, h2.symm⟩), hK _ ?_⟩; clear hK K))
  refine wpStill_nil ?_
  go_wp2_with fail
  refine (HC.out).mono ?_; rintro e w2 ⟨rfl, h2, hk2⟩
  have HE := Lib.hid (HF.out w2 h2 hk2)
  clear h2 hk2 q1 q2 q3 r1 HC HF
  go_wp2
  go_ret
  exact ⟨rfl, HE.out⟩
end
end Go.Proofs.Ytfecgibdhglhiaa
