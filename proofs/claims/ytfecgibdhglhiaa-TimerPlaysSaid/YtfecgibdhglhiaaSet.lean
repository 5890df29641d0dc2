/-
  The walks of Set: what may not be, where there is no room, what is there already, what is new.
  Conditions: the timers lie in memory as Raw says; at most 2000 of them (new: fewer than 1024); the count of sets is below a million.
-/
import Derived.Test.YtfecgibdhglhiaaStop
namespace Go.Proofs.Ytfecgibdhglhiaa
open Go.RowKit
section
variable {w w' : World} {p mb : Nat} {v : Value} {ts us : List T} {last : Int}
/-- whatever the lookup tells -/
theorem look_any (h : Raw w p mb v ts last) (k : ByteArray) : ∃ q b, q.oneCell' = true ∧ (Instr.lookup 52 (.map (some mb)) (.string k) true).run Try.prog w = .ok (.tuple #[q, .bool b]) w := by
  by_cases hk : ∃ t ∈ ts, t.id = k
  · obtain ⟨t, ht, rfl⟩ := hk
    exact ⟨_, _, rfl, h.bym.look_yes ht fun u hu e => by rw [h.ids u hu t ht e]⟩
  · exact ⟨_, _, rfl, h.bym.look_no fun t ht e => hk ⟨t, ht, e⟩⟩
theorem setBad0 (h : Raw w p mb v ts last) (at_ : Int) : Calls Try.prog 10 #[.pointer (some ⟨p, 0, none⟩), .string ByteArray.empty, .int .u64 at_] w fun e w' => e = .returned (.int .i64 1) ∧ w = w' := by
  have q1 := h.heap.cell1
  obtain ⟨q, b, _, q2⟩ := look_any h ByteArray.empty
  clear h
  go_enter Try.func10, Try.ntmps10
  go_wp2
  go_ret
  exact ⟨rfl, rfl⟩
theorem setBad1 (h : Raw w p mb v ts last) (k : ByteArray) (at_ : Int) (hk : 64 < k.size) : Calls Try.prog 10 #[.pointer (some ⟨p, 0, none⟩), .string k, .int .u64 at_] w fun e w' => e = .returned (.int .i64 1) ∧ w = w' := by
  have q1 := h.heap.cell1
  obtain ⟨q, b, _, q2⟩ := look_any h k
  clear h
  go_enter Try.func10, Try.ntmps10
  go_wp2
  all_goals (go_ret; exact ⟨rfl, rfl⟩)
theorem setFull (h : Raw w p mb v ts last) (k : ByteArray) (at_ : Int) (hk0 : ¬ k.toList = []) (hk : k.size ≤ 64) (hn : ∀ t ∈ ts, t.id ≠ k) (hl : ts.length = 1024) : Calls Try.prog 10 #[.pointer (some ⟨p, 0, none⟩), .string k, .int .u64 at_] w fun e w' => e = .returned (.int .i64 4) ∧ w = w' := by
  have q1 := h.heap.cell1
  have q2 := h.bym.look_no hn
  obtain ⟨a, c, hv⟩ := h.heap.val
  have hc := len_any p a ts.length c w (by rw [h.heap.cell, hv])
  rw [hl] at hc
  have hk1 : k.toList.isEmpty = false := by simpa using hk0
  have HC := Lib.hid hc
  clear h hc hl hn hv
  go_enter Try.func10, Try.ntmps10
  go_wp2_with (go_at_call 12; refine (HC.out).mono ?_; rintro e w' ⟨rfl, rfl⟩)
  go_ret
  exact ⟨rfl, rfl⟩

theorem HeapAt.set_last {m l : Value} (h : HeapAt w p m l v ts) (l' : Value) : HeapAt (w.setCell ⟨p, 2, none⟩ l') p m l' v ts := by
  have h1 := h.own
  refine ⟨by rw [block_same h1 2 _]; rfl, ?_, fun i hi => ?_⟩
  · refine ownsRow_setCell_other h.row (a := ⟨p, 2, none⟩) (fun e => ?_) l'
    rcases h.shape with ⟨h2, _⟩ | ⟨a, c, cur, h2, h3, _⟩
    · rw [h2] at e; cases e
    · rw [h2] at e; simp only [Value.ownBlock, Option.some.injEq] at e; rw [e, h1] at h3; simp at h3
  · rw [block_other _ _ _ _ (fun e => by have := h.tim i hi; rw [e, h1] at this; simp [tb] at this)]
    exact h.tim i hi
theorem g_set {ts : List T} {i : Nat} (hi : i < ts.length) (x : T) (k : Nat) : g (ts.set i x) k = if k = i then x else g ts k := by
  by_cases e : k = i
  · subst e; simp [g, hi]
  · simp [g, Ne.symm e, e]
theorem HeapAt.set_tim {m l : Value} (h : HeapAt w p m l v ts) {i : Nat} (hi : i < ts.length) (a n : Int) :
    HeapAt ((w.setCell ⟨(g ts i).blk, 1, none⟩ (.int .u64 a)).setCell ⟨(g ts i).blk, 2, none⟩ (.int .u64 n)) p m l v (ts.set i { g ts i with at_ := a, num := n }) := by
  have hI := h.tim i hi
  have nP : p ≠ (g ts i).blk := fun e => by have := h.own; rw [e, hI] at this; simp [tb] at this
  have hp : ∀ t : T, ptrT { t with at_ := a, num := n } = ptrT t := fun t => rfl
  refine ⟨by rw [block_other _ _ _ _ nP, block_other _ _ _ _ nP]; exact h.own, ?_, fun j hj => ?_⟩
  · have e1 : (ts.set i { g ts i with at_ := a, num := n }).map ptrT = ts.map ptrT := by
      rw [List.map_set, hp]
      apply List.ext_getElem (by simp)
      intro j h1 h2
      rw [List.getElem_set]
      split
      · rename_i e; subst e; rw [List.getElem_map, g_lt (by simpa using h2)]
      · rfl
    rw [e1, List.length_set]
    have hne : v.ownBlock ≠ Option.some (g ts i).blk := fun e => by
      rcases h.shape with ⟨h2, _⟩ | ⟨a, c, cur, h2, h3, _⟩
      · rw [h2] at e; cases e
      · rw [h2] at e; simp only [Value.ownBlock, Option.some.injEq] at e; rw [e, hI] at h3; simp [tb] at h3
    exact ownsRow_setCell_other (ownsRow_setCell_other h.row (a := ⟨(g ts i).blk, 1, none⟩) hne _) (a := ⟨(g ts i).blk, 2, none⟩) hne _
  · rw [List.length_set] at hj
    rw [g_set hi]
    by_cases e : j = i
    · subst e; rw [if_pos rfl, block_same (block_same hI 1 _) 2 _]; rfl
    · rw [if_neg e]
      have nn : (g ts j).blk ≠ (g ts i).blk := fun e2 => e (h.inj hj hi e2)
      rw [block_other _ _ _ _ nn, block_other _ _ _ _ nn]; exact h.tim j hj
set_option maxHeartbeats 400000 in
/-- Set of what is there -/
theorem setOld (h : Raw w p mb v ts last) {i : Nat} (hi : i < ts.length) (at_ : Int) (hb : ts.length ≤ 2000) (hl0 : 0 ≤ last) (hl : last ≤ 1000000) (hk0 : ¬ (g ts i).id.toList = []) (hk : (g ts i).id.size ≤ 64) :
    Calls Try.prog 10 #[.pointer (some ⟨p, 0, none⟩), .string (g ts i).id, .int .u64 at_] w fun e w' => e = .returned (.int .i64 0) ∧
      Raw w' p mb v (fixL (ts.set i { g ts i with at_ := at_, num := last + 1 }) i ts.length) (last + 1) ∧ Keeps (FootR p mb v ts) w w' := by
  have ht := mem_g hi
  have q1 := h.heap.cell1
  have q2 := h.bym.look_yes ht fun u hu e => by rw [h.ids u hu _ ht e]
  have q3 := h.heap.cell2
  have q4 := h.heap.free 2
  have h1 := h.heap.set_last (.int .u64 (last + 1))
  have q5 := h1.cell2
  have q6 : (w.setCell ⟨p, 2, none⟩ (.int .u64 (last + 1))).cell? ⟨(g ts i).blk, 1, none⟩ = some (.int .u64 (g ts i).at_) := by rw [cell_at (h1.tim i hi)]; rfl
  have q7 : (w.setCell ⟨p, 2, none⟩ (.int .u64 (last + 1))).frozen? ⟨(g ts i).blk, 1, none⟩ = false := free_at (h1.tim i hi) 1
  have q8 : (w.setCell ⟨p, 2, none⟩ (.int .u64 (last + 1))).cell? ⟨(g ts i).blk, 2, none⟩ = some (.int .u64 (g ts i).num) := by rw [cell_at (h1.tim i hi)]; rfl
  have q9 : (w.setCell ⟨p, 2, none⟩ (.int .u64 (last + 1))).frozen? ⟨(g ts i).blk, 2, none⟩ = false := free_at (h1.tim i hi) 2
  have h2 := h1.set_tim hi at_ (last + 1)
  have q10 := cell_at (h2.tim i (by rw [List.length_set]; exact hi)) 3
  rw [g_set hi, if_pos rfl] at q10
  have q10 : (((w.setCell ⟨p, 2, none⟩ (.int .u64 (last + 1))).setCell ⟨(g ts i).blk, 1, none⟩ (.int .u64 at_)).setCell ⟨(g ts i).blk, 2, none⟩ (.int .u64 (last + 1))).cell? ⟨(g ts i).blk, 3, none⟩ = some (.int .i64 i) := q10
  have hc := heapFixAt h2.drew (i := i) (by rw [List.length_set]; exact hi) (by rw [List.length_set]; exact hb)
  rw [List.length_set] at hc
  have hids : ∀ t ∈ ts.set i { g ts i with at_ := at_, num := last + 1 }, ∃ u ∈ ts, t.id = u.id ∧ t.blk = u.blk ∧ (u = g ts i → t = { g ts i with at_ := at_, num := last + 1 }) ∧ (u ≠ g ts i → t = u) := by
    intro t ht'
    obtain ⟨j, hj, e⟩ := g_of_mem ht'
    rw [List.length_set] at hj
    rw [g_set hi] at e
    by_cases e2 : j = i
    · rw [if_pos e2] at e
      exact ⟨g ts i, ht, by rw [← e], by rw [← e], fun _ => e.symm, fun h => absurd rfl h⟩
    · rw [if_neg e2] at e
      exact ⟨g ts j, mem_g hj, by rw [← e], by rw [← e], fun e3 => absurd (h.heap.inj hj hi (by rw [e3])) e2, fun _ => e.symm⟩
  have hrev : ∀ u ∈ ts, ∃ t ∈ ts.set i { g ts i with at_ := at_, num := last + 1 }, t.id = u.id ∧ t.blk = u.blk := by
    intro u hu
    obtain ⟨j, hj, e⟩ := g_of_mem hu
    refine ⟨g (ts.set i { g ts i with at_ := at_, num := last + 1 }) j, mem_g (by rw [List.length_set]; exact hj), ?_⟩
    rw [g_set hi]
    by_cases e2 : j = i
    · rw [if_pos e2]; subst e2; rw [← e]; exact ⟨rfl, rfl⟩
    · rw [if_neg e2, e]; exact ⟨rfl, rfl⟩
  have hpf : (fixL (ts.set i { g ts i with at_ := at_, num := last + 1 }) i ts.length).Perm (ts.set i { g ts i with at_ := at_, num := last + 1 }) := fixL_perm hi (by rw [List.length_set]; exact Nat.le_refl _)
  have hfin : ∀ w2 : World, HeapAt w2 p (.map (some mb)) (.int .u64 (last + 1)) v (fixL (ts.set i { g ts i with at_ := at_, num := last + 1 }) i ts.length) →
      Keeps (Foot p v (ts.set i { g ts i with at_ := at_, num := last + 1 })) (((w.setCell ⟨p, 2, none⟩ (.int .u64 (last + 1))).setCell ⟨(g ts i).blk, 1, none⟩ (.int .u64 at_)).setCell ⟨(g ts i).blk, 2, none⟩ (.int .u64 (last + 1))).drew w2 →
      Raw w2 p mb v (fixL (ts.set i { g ts i with at_ := at_, num := last + 1 }) i ts.length) (last + 1) ∧ Keeps (FootR p mb v ts) w w2 := by
    intro w2 g2 k2
    have k1 : Keeps (Foot p v ts) w (((w.setCell ⟨p, 2, none⟩ (.int .u64 (last + 1))).setCell ⟨(g ts i).blk, 1, none⟩ (.int .u64 at_)).setCell ⟨(g ts i).blk, 2, none⟩ (.int .u64 (last + 1))).drew := by
      refine ((((Keeps.refl _ _).setCell ?_ _).setCell ?_ _).setCell ?_ _).drew
      · exact fun _ => .inl rfl
      · exact fun _ => .inr (.inr ⟨_, ht, rfl⟩)
      · exact fun _ => .inr (.inr ⟨_, ht, rfl⟩)
    have k : Keeps (Foot p v ts) w w2 := k1.trans' k2 fun b _ hf => by
      rcases hf with e | e | ⟨t, ht', e⟩
      · exact .inl e
      · exact .inr (.inl e)
      · obtain ⟨u, hu, _, e2, _⟩ := hids t ht'
        exact .inr (.inr ⟨u, hu, by rw [← e2]; exact e⟩)
    refine ⟨⟨g2, ?_, ?_⟩, k.mono fun _ _ hf => .inl hf⟩
    · refine ((h.bym.keeps k h.apart).congr (us := ts.set i { g ts i with at_ := at_, num := last + 1 }) ?_ ?_).perm hpf
      · exact hrev
      · intro u hu
        obtain ⟨t, ht', e1, e2, _⟩ := hids u hu
        exact ⟨t, ht', e1, e2⟩
    · intro a ha b hb' e
      obtain ⟨u1, hu1, e1, e2, e3, e4⟩ := hids a (hpf.mem_iff.1 ha)
      obtain ⟨u2, hu2, f1, f2, f3, f4⟩ := hids b (hpf.mem_iff.1 hb')
      have : u1 = u2 := h.ids u1 hu1 u2 hu2 (by rw [← e1, ← f1, e])
      subst this
      by_cases e5 : u1 = g ts i
      · rw [e3 e5, f3 e5]
      · rw [e4 e5, f4 e5]
  have HC := Lib.hid hc
  have HF := Lib.hid hfin
  unfold ptrT at q2
  have hk1 : (g ts i).id.toList.isEmpty = false := by simpa using hk0
  clear hc hfin h h1 h2 hi hb ht hids hrev hpf
  go_enter Try.func10, Try.ntmps10
  go_wp2
  generalize hW3 : (((w.setCell ⟨p, 2, none⟩ (.int .u64 (last + 1))).setCell ⟨(g ts i).blk, 1, none⟩ (.int .u64 at_)).setCell ⟨(g ts i).blk, 2, none⟩ (.int .u64 (last + 1))) = W3 at HC HF q10 ⊢
  clear hW3 q1 q2 q3 q4 q5 q6 q7 q8 q9
  refine wp_region_still_tail 6 (by kernel_rfl) (by kernel_rfl) ?_
  simp only [List.take_succ_cons, List.take_zero, List.drop_succ_cons, List.drop_zero]
  repeat (first | still_step | (refine wpStill_step (fun K hK => ?_); go_simp; refine ⟨_, (heap_any _ _).mono (fun e w' ⟨h1, h2⟩ => ⟨h1, h2.symm⟩), hK _ ?_⟩; clear hK K))
  refine wpStill_nil ?_
  go_wp2_with fail
  refine (HC.out).mono ?_; rintro e w2 ⟨rfl, h2, hk2⟩
  have HE := Lib.hid (HF.out w2 h2 hk2)
  clear h2 hk2 q10 HC HF
  go_wp2
  go_ret
  exact ⟨rfl, HE.out⟩

set_option maxHeartbeats 400000 in
/-- Set of what is not there -/
theorem setNew (h : Raw w p mb v ts last) (k : ByteArray) (at_ : Int) (hb : ts.length < 1024) (hl0 : 0 ≤ last) (hl : last ≤ 1000000) (hk0 : ¬ k.toList = []) (hk : k.size ≤ 64) (hn : ∀ t ∈ ts, t.id ≠ k) :
    Calls Try.prog 10 #[.pointer (some ⟨p, 0, none⟩), .string k, .int .u64 at_] w fun e w' => e = .returned (.int .i64 0) ∧
      (∃ v', (∀ b, v'.ownBlock = some b → v.ownBlock = some b ∨ w.heap.size ≤ b) ∧ Raw w' p mb v' (upL (ts ++ [⟨w.heap.size, k, at_, last + 1⟩]) ts.length) (last + 1)) ∧ Keeps (FootR p mb v ts) w w' := by
  have q1 := h.heap.cell1
  have q2 := h.bym.look_no hn
  have q3 := h.heap.cell2
  have q4 := h.heap.free 2
  have h1 := h.heap.set_last (.int .u64 (last + 1))
  have q5 := h1.cell2
  have q5b := h1.cell1
  have k1 : Keeps (fun b => b = p) w ((w.setCell ⟨p, 2, none⟩ (.int .u64 (last + 1))).alloc (.cells #[.string k, .int .u64 at_, .int .u64 (last + 1), .int .i64 0] 60)) := by
    refine ((Keeps.refl _ _).setCell ?_ _).alloc _
    exact fun _ => rfl
  have hsz : (w.setCell ⟨p, 2, none⟩ (.int .u64 (last + 1))).heap.size = w.heap.size := by simp
  have h2 : HeapAt ((w.setCell ⟨p, 2, none⟩ (.int .u64 (last + 1))).alloc (.cells #[.string k, .int .u64 at_, .int .u64 (last + 1), .int .i64 0] 60)) p (.map (some mb)) (.int .u64 (last + 1)) v ts :=
    h1.of_same fun b hf => Below.heap_alloc _ _ _ (h1.lt hf)
  have q11 := h2.cell1
  have hx : ((w.setCell ⟨p, 2, none⟩ (.int .u64 (last + 1))).alloc (.cells #[.string k, .int .u64 at_, .int .u64 (last + 1), .int .i64 0] 60)).heap[w.heap.size]? = some (tb ⟨w.heap.size, k, at_, last + 1⟩ 0) := by
    conv => lhs; arg 2; rw [← hsz]
    exact heap_alloc_new _ _
  have hpm : p ≠ mb := fun e => h.apart (.inl e.symm)
  have hby : ByAt ((w.setCell ⟨p, 2, none⟩ (.int .u64 (last + 1))).alloc (.cells #[.string k, .int .u64 at_, .int .u64 (last + 1), .int .i64 0] 60)) mb ts := h.bym.keeps k1 (Ne.symm hpm)
  obtain ⟨w3, r1, r2, r3, r4⟩ := hby.put ⟨w.heap.size, k, at_, last + 1⟩ hn
  have h3 : HeapAt w3 p (.map (some mb)) (.int .u64 (last + 1)) v ts := h2.keeps r3 fun b hb e => h.apart (e ▸ hb)
  have hmlt : mb < w.heap.size := h.bym.lt
  have hx3 : w3.heap[w.heap.size]? = some (tb ⟨w.heap.size, k, at_, last + 1⟩ 0) := by
    rw [r3.block _ (lt_at hx) (by show ¬ w.heap.size = mb; omega)]; exact hx
  have hxf : ¬ Foot p v ts w.heap.size := fun hf => Nat.lt_irrefl _ (h.heap.lt hf)
  have hc := heapPushAt h3 ⟨w.heap.size, k, at_, last + 1⟩ 0 hx3 hxf (by omega)
  obtain ⟨a, c, hv⟩ := h.heap.val
  have hlen := len_any p a ts.length c w (by rw [h.heap.cell, hv])
  have hfin : ∀ w4 : World, (∃ v', (∀ b, v'.ownBlock = some b → v.ownBlock = some b ∨ w3.heap.size ≤ b) ∧ HeapAt w4 p (.map (some mb)) (.int .u64 (last + 1)) v' (upL (ts ++ [⟨w.heap.size, k, at_, last + 1⟩]) ts.length)) →
      Keeps (fun b => Foot p v ts b ∨ b = w.heap.size) w3 w4 →
      (∃ v', (∀ b, v'.ownBlock = some b → v.ownBlock = some b ∨ w.heap.size ≤ b) ∧ Raw w4 p mb v' (upL (ts ++ [⟨w.heap.size, k, at_, last + 1⟩]) ts.length) (last + 1)) ∧ Keeps (FootR p mb v ts) w w4 := by
    rintro w4 ⟨v', e1, g4⟩ k4
    have s1 : w.heap.size ≤ w3.heap.size := by rw [r4]; simp
    have hp := pushL_perm (ts := ts) ⟨w.heap.size, k, at_, last + 1⟩
    refine ⟨⟨v', fun b hb => (e1 b hb).imp id (fun h => Nat.le_trans s1 h), g4, ?_, ?_⟩, ?_⟩
    · refine (r2.keeps k4 ?_).perm (hp.trans (List.perm_append_singleton _ _).symm)
      rintro (hf | hf)
      · exact h.apart hf
      · omega
    · intro x hx y hy e
      rcases List.mem_cons.1 (hp.mem_iff.1 hx) with hx | hx <;> rcases List.mem_cons.1 (hp.mem_iff.1 hy) with hy | hy
      · rw [hx, hy]
      · subst hx; exact absurd e.symm (hn y hy)
      · subst hy; exact absurd e (hn x hx)
      · exact h.ids x hx y hy e
    · refine ((k1.mono fun b _ e => .inl (.inl e)).trans' r3 fun b _ e => .inr e).trans' k4 fun b hb hf => ?_
      rcases hf with hf | hf
      · exact .inl hf
      · omega
  have HC := Lib.hid hc
  have HF := Lib.hid hfin
  have HL := Lib.hid hlen
  have hk1 : k.toList.isEmpty = false := by simpa using hk0
  have hne : ((ts.length : Int) == 1024) = false := by simp; omega
  unfold ptrT at r1
  generalize ts.length = n at HC HF HL hne
  clear hc hfin hlen h h1 h2 h3 hx hx3 hxf hby r2 r3 r4 k1 hsz hpm hmlt hv hn hb
  go_enter Try.func10, Try.ntmps10
  go_wp2_with (go_at_call 12; refine (HL.out).mono ?_; rintro e w' ⟨rfl, rfl⟩)
  clear q1 q2 q3 q4 q5 q5b q11 r1 HL hne
  go_wp2_with (go_at_call 23; refine (heap_any _ _).mono ?_; rintro e w' ⟨rfl, rfl⟩)
  refine (HC.out).mono ?_; rintro e w4 ⟨rfl, h4, hk4⟩
  have HE := Lib.hid (HF.out w4 h4 hk4)
  clear h4 hk4 HC HF
  go_wp2
  go_ret
  exact ⟨rfl, HE.out⟩
end
end Go.Proofs.Ytfecgibdhglhiaa
