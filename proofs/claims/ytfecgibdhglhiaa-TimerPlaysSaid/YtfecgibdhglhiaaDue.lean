/-
  The walk of Due: it pops what is due, forgets it, and tells it.
  Conditions: the timers lie in memory as Raw says; there are at most 2000.
-/
import Derived.Test.YtfecgibdhglhiaaSet
namespace Go.Proofs.Ytfecgibdhglhiaa
open Go.RowKit
/-- Due over a list of timers: the ids, and what is left. -/
def dueT (now : Int) (ts : List T) : List ByteArray × List T :=
  if _h : 0 < ts.length ∧ (g ts 0).at_ ≤ now then ((g ts 0).id :: (dueT now (popL ts)).1, (dueT now (popL ts)).2) else ([], ts)
  termination_by ts.length
  decreasing_by all_goals (rw [popL_length]; omega)
def strV (s : ByteArray) : Value := .string s
def lenV : Value → Nat | .slice _ n _ => n | _ => 0
section
variable {w w' : World} {p mb : Nat} {v : Value} {ts us : List T} {last : Int}
theorem Try.info9 : (Try.prog.info? 9).map (fun i => (i.zero, i.size, i.bytes)) = some (some (.string ByteArray.empty), 1, 16) := by kernel_rfl
def DueRel (w : World) (p mb : Nat) (v : Value) (ts : List T) (last now : Int) (ov : Value) (wr : World) : Prop :=
  ∃ (done : List ByteArray) (cur : List T) (v' : Value), wr.ownsRow w.heap.size 9 1 ov done.length (done.map strV) ∧ lenV ov = done.length ∧ (∃ a c, ov = .slice a done.length c) ∧ (done = [] → ov = .slice none 0 0) ∧
    Raw wr p mb v' cur last ∧ v'.ownBlock = v.ownBlock ∧ Keeps (FootR p mb v ts) w wr ∧ done ++ (dueT now cur).1 = (dueT now ts).1 ∧ (dueT now cur).2 = (dueT now ts).2 ∧
    done.length + cur.length = ts.length ∧ (∀ t ∈ cur, t ∈ ts)
theorem Raw.drew (h : Raw w p mb v ts last) : Raw w.drew p mb v ts last := ⟨h.heap.drew, h.bym.of_same rfl, h.ids⟩
theorem FootR.sub {v' : Value} {cur : List T} (hv : v'.ownBlock = v.ownBlock) (hs : ∀ t ∈ cur, t ∈ ts) {b : Nat} (h : FootR p mb v' cur b) : FootR p mb v ts b := by
  rcases h with h | h
  · exact .inl (h.same hv hs)
  · exact .inr h
def DuePost (w : World) (p mb : Nat) (v : Value) (ts : List T) (last now : Int) (e : Ending) (w' : World) : Prop :=
  ∃ sv v', e = .returned sv ∧ w'.ownsRow w.heap.size 9 1 sv (dueT now ts).1.length ((dueT now ts).1.map strV) ∧ ((dueT now ts).1 = [] → sv = .slice none 0 0) ∧ v'.ownBlock = v.ownBlock ∧ Raw w' p mb v' (dueT now ts).2 last ∧ Keeps (FootR p mb v ts) w w'
set_option maxHeartbeats 1000000 in
theorem dueAt (h : Raw w p mb v ts last) (now : Int) (hb : ts.length ≤ 2000) : Calls Try.prog 11 #[.pointer (some ⟨p, 0, none⟩), .int .u64 now] w (DuePost w p mb v ts last now) := by
  go_enter Try.func11, Try.ntmps11
  go_wp2_with fail
  go_loopw [5] (fun ov wr => DueRel w p mb v ts last now ov wr) (fun ov _ => ts.length - lenV ov)
  case atStart => exact ⟨[], ts, v, World.ownsRow_nil _ _ _ _, rfl, ⟨none, 0, rfl⟩, fun _ => rfl, h, rfl, Keeps.refl _ _, by simp, rfl, by simp, fun _ h => h⟩
  case round =>
    have hfoot := fun b => h.lt (b := b)
    clear h
    obtain ⟨done, cur, v1, ho, hlv, ⟨oa, oc, rfl⟩, hnil, hr, hv1, hk, hd1, hd2, hlen, hsub⟩ := hrel
    obtain ⟨a, c, hv⟩ := hr.heap.val
    have q1 := hr.heap.cell
    rw [hv] at q1
    by_cases h0 : 0 < cur.length
    · by_cases hat : (g cur 0).at_ ≤ now
      · have e1 : dueT now cur = ((g cur 0).id :: (dueT now (popL cur)).1, (dueT now (popL cur)).2) := by
          conv => lhs; unfold dueT
          rw [dif_pos ⟨h0, hat⟩]
        rw [e1] at hd1 hd2
        have hp := popL_perm h0
        have hsub2 : ∀ t ∈ popL cur, t ∈ cur := fun t ht => hp.mem_iff.1 (List.mem_cons_of_mem _ ht)
        have hx := mem_g h0
        have hne : ∀ t ∈ popL cur, t.id ≠ (g cur 0).id := fun t ht' e => by
          have e2 := hr.ids t (hsub2 t ht') _ hx e
          subst e2
          have hn : (g cur 0 :: popL cur).Pairwise (fun a b => a.blk ≠ b.blk) := by
            refine (hp.pairwise_iff (fun h => Ne.symm h)).2 (List.pairwise_iff_getElem.2 fun a b ha hb hab e4 => ?_)
            have := hr.heap.inj ha hb (by rw [g_lt ha, g_lt hb]; exact e4)
            omega
          exact (List.pairwise_cons.1 hn).1 _ ht' rfl
        obtain ⟨a', c', arr, hv2, ha, hc, hm, hs, ht⟩ := hr.heap.some h0
        rw [hv] at hv2
        simp only [Value.slice.injEq, true_and] at hv2
        obtain ⟨rfl, rfl⟩ := hv2
        have q2 : wr.cell? ⟨a', 0, none⟩ = some (.pointer (some ⟨(g cur 0).blk, 0, none⟩)) := by rw [cell_at ha, ptr_at ht h0]; rfl
        have q3 : wr.cell? ⟨(g cur 0).blk, 1, none⟩ = some (.int .u64 (g cur 0).at_) := by rw [cell_at (hr.heap.tim 0 h0)]; rfl
        have hlb : cur.length ≤ 2000 := by omega
        have hpop := heapPopAt hr.heap h0 hlb
        -- what stands behind Pop
        have hbehind : ∀ w1 : World, (∃ v', v'.ownBlock = v1.ownBlock ∧ HeapAt w1 p (.map (some mb)) (.int .u64 last) v' (popL cur)) → Keeps (Foot p v1 cur) wr w1 → w1.heap[(g cur 0).blk]? = some (tb (g cur 0) (cur.length - 1)) →
            w1.cell? ⟨p, 1, none⟩ = some (.map (some mb)) ∧ w1.cell? ⟨(g cur 0).blk, 0, none⟩ = some (.string (g cur 0).id) ∧
            ∃ w2, (∀ ty, (Builtin.delete_ #[52, 9] ty #[.map (some mb), .string (g cur 0).id]).run Try.prog w1.drew = .ok (.tuple #[]) w2) ∧ w2.cell? ⟨(g cur 0).blk, 0, none⟩ = some (.string (g cur 0).id) ∧
              (w2.alloc (.cells #[.string (g cur 0).id] 9)).ownsRow w.heap.size 9 1 (.slice oa done.length oc) done.length (done.map strV) ∧ w.heap.size ≤ w2.heap.size ∧
              ∀ ov w3, w3.ownsRow w.heap.size 9 1 ov (done.length + 1) (done.map strV ++ [.string (g cur 0).id]) → (w2.alloc (.cells #[.string (g cur 0).id] 9)).grownBy w3 (Value.ownBlock (.slice oa done.length oc)) →
                DueRel w p mb v ts last now ov w3 ∧ lenV ov = done.length + 1 := by
          rintro w1 ⟨v', hv', h1⟩ hk1 hb1
          obtain ⟨w2, r1, r2, r3⟩ := ByAt.del (w := w1.drew) ((hr.bym.keeps hk1 hr.apart).of_same rfl) (g cur 0).id (popL cur) (fun t ht => ⟨hsub2 t ht, hne t ht⟩) (fun t ht hne2 => by
            rcases List.mem_cons.1 (hp.mem_iff.2 ht) with e | e
            · subst e; exact absurd rfl hne2
            · exact e)
          have hmbx : (g cur 0).blk ≠ mb := fun e => hr.apart (.inr (.inr ⟨_, hx, e⟩))
          have hb2 : w2.heap[(g cur 0).blk]? = some (tb (g cur 0) (cur.length - 1)) := by rw [r3.block _ (lt_at (w := w1) hb1) hmbx]; exact hb1
          have h2 : HeapAt w2 p (.map (some mb)) (.int .u64 last) v' (popL cur) := h1.drew.keeps r3 fun b hf e => hr.apart (e ▸ hf.same hv' hsub2)
          have hR2 : Raw w2 p mb v' (popL cur) last := ⟨h2, r2, fun t ht u hu e => hr.ids t (hsub2 t ht) u (hsub2 u hu) e⟩
          have hq : Keeps (FootR p mb v ts) w w2 := ((hk.trans' hk1 fun b _ hf => FootR.sub hv1 hsub (.inl hf)).drew).trans' r3 fun b _ e => .inr e
          have hob : ∀ k, Value.ownBlock (.slice oa done.length oc) = some k → w.heap.size ≤ k ∧ k < wr.heap.size := ho.lt
          have ho2 : w2.ownsRow w.heap.size 9 1 (.slice oa done.length oc) done.length (done.map strV) := by
            refine ⟨ho.1, ?_⟩
            rcases ho.2 with h | ⟨gb, cap, cu, h3, h4, h5, h6⟩
            · exact .inl h
            · refine .inr ⟨gb, cap, cu, h3, h4, ?_, h6⟩
              have hnf : ¬ FootR p mb v ts gb := fun hf => by have := hfoot gb hf; omega
              have g1 : w1.heap[gb]? = wr.heap[gb]? := hk1.block gb (lt_at h5) fun hf => hnf (FootR.sub hv1 hsub (.inl hf))
              rw [r3.block gb (Nat.lt_of_lt_of_le (lt_at h5) hk1.size) (fun e => hnf (.inr e))]
              exact g1.trans h5
          have hsz2 : w.heap.size ≤ w2.heap.size := hq.size
          refine ⟨h1.cell1, by rw [cell_at hb1]; rfl, w2, r1, by rw [cell_at hb2]; rfl, ho2.alloc _, hsz2, fun ov w3 ho3 hg3 => ?_⟩
          obtain ⟨a3, c3, rfl⟩ := slice_of_owns ho3 (Nat.succ_pos _)
          have k3 : Keeps (fun b => Value.ownBlock (.slice oa done.length oc) = some b) w2 w3 := ((Keeps.refl _ _).alloc _).grown hg3 fun k e _ => e
          refine ⟨⟨done ++ [(g cur 0).id], popL cur, v', by simpa [strV] using ho3, by simp [lenV], ⟨some ⟨a3, 0, none⟩, c3, by simp⟩, fun h => by simp at h, hR2.keeps k3 (fun b hf e => ?_), hv'.trans hv1, hq.trans' k3 (fun b hb e => ?_), by rw [← hd1]; simp, hd2, ?_, fun t ht => hsub t (hsub2 t ht)⟩, rfl⟩
          · have := hfoot b (FootR.sub (hv'.trans hv1) (fun t ht => hsub t (hsub2 t ht)) hf)
            have := (hob b e).1
            omega
          · have := (hob b e).1
            omega
          · rw [popL_length, List.length_append, List.length_singleton]; omega
        have HP := Lib.hid hpop
        have HB := Lib.hid hbehind
        have HL := Lib.hid hlen
        have hta := run_ta ⟨(g cur 0).blk, 0, none⟩
        have hn1 : 0 < cur.length := h0
        unfold maxLen at hm
        have hbd : done.length ≤ 2000 := by omega
        obtain ⟨i0, hi, hz0, hz1, hz2⟩ := info_parts Try.info9
        clear hbehind hpop hr ho hnil hlen hp hsub2 hx hne ha hs ht hv e1 hd1 hd2 hk hv1 hsub hfoot hlb
        go_wp2_with (go_at_call 23; refine (heap_any _ _).mono ?_; rintro e w' ⟨rfl, rfl⟩)
        refine (HP.out).mono ?_; rintro e w1 ⟨rfl, h1, hk1, hb1⟩
        obtain ⟨r1, r2, w2, r3, r4, ho2, hsz2, hout⟩ := HB.out w1 h1 hk1 hb1
        have HO := Lib.hid ho2
        have HE := Lib.hid hout
        unfold ptrT
        clear h1 hk1 hb1 HB HP q1 q2 q3 ho2 hout
        go_wp2
        refine wp_region_still_tail 8 (by kernel_rfl) (by kernel_rfl) ?_
        simp only [List.take_succ_cons, List.take_zero, List.drop_succ_cons, List.drop_zero]
        repeat still_step
        refine wpStill_nil ?_
        go_wp2_with (at_builtin; refine wpList_append_own _ rfl _ _ 30 rfl w.heap.size 9 i0 (.string ByteArray.empty) 1 16 Try.underlying30 hi hz0 hz1 hz2 rfl Nat.one_pos _ done.length (done.map strV) rfl HO.out ⟨w2.heap.size, 0, none⟩ 1 1 [.string (g cur 0).id] rfl rfl ?c1 ?c2 ?c3 ?c4 ?c5 ?_)
        case c1 =>
          intro j u hu
          cases j with
          | zero =>
            simp at hu; subst hu
            show (World.alloc _ _).cell? ⟨w2.heap.size, 0, none⟩ = _
            rw [World.cell?_alloc_at _ _ _ _ rfl]; rfl
          | succ j => simp at hu
        case c2 => intro u hu; simp at hu; subst hu; rfl
        case c3 => unfold maxLen; omega
        case c4 => omega
        case c5 => simp; omega
        intro ov w3 ho3 hg3 _
        obtain ⟨hrel, hlv3⟩ := HE.out ov w3 ho3 hg3
        have HR := Lib.hid hrel
        have HV := Lib.hid hlv3
        have HW := Lib.hid hlv
        clear ho3 hg3 hrel hlv3 HE HO r1 r2 r3 r4 hta hlv
        go_wp2
        go_roundw
        case rel => exact HR.out
        case measure => have := HV.out; have := HW.out; have := HL.out; simp; omega
      · have e1 : dueT now cur = ([], cur) := by unfold dueT; rw [dif_neg (fun h => hat h.2)]
        rw [e1] at hd1 hd2
        have hfin : done = (dueT now ts).1 := by simpa using hd1
        rw [hfin] at ho hnil
        obtain ⟨a', c', arr, hv2, ha, hc, hm, hs, ht⟩ := hr.heap.some h0
        rw [hv] at hv2
        simp only [Value.slice.injEq, true_and] at hv2
        obtain ⟨rfl, rfl⟩ := hv2
        have q2 : wr.cell? ⟨a', 0, none⟩ = some (.pointer (some ⟨(g cur 0).blk, 0, none⟩)) := by rw [cell_at ha, ptr_at ht h0]; rfl
        have q3 : wr.cell? ⟨(g cur 0).blk, 1, none⟩ = some (.int .u64 (g cur 0).at_) := by rw [cell_at (hr.heap.tim 0 h0)]; rfl
        have H1 := Lib.hid ho
        have H2 := Lib.hid hnil
        have H3 := Lib.hid hr
        have H4 := Lib.hid hd2
        have H5 := Lib.hid hfin
        unfold maxLen at hm
        clear ho hnil hr hd1 hd2 hfin hv e1 ha hs ht hfoot
        go_wp2
        go_ret
        have e6 := H5.out
        refine ⟨_, v1, rfl, ?_, ?_, hv1, ?_, hk⟩
        · rw [e6]; exact H1.out
        · rw [e6]; exact H2.out
        · rw [← H4.out]; exact H3.out
    · have e1 : cur = [] := List.eq_nil_of_length_eq_zero (by omega)
      subst e1
      have e2 : dueT now [] = ([], []) := by unfold dueT; rw [dif_neg (by simp)]
      rw [e2] at hd1 hd2
      have hfin : done = (dueT now ts).1 := by simpa using hd1
      rw [hfin] at ho hnil
      have H1 := Lib.hid ho
      have H2 := Lib.hid hnil
      have H3 := Lib.hid hr
      have H4 := Lib.hid hd2
      have H5 := Lib.hid hfin
      clear ho hnil hr hd1 hd2 hfin hv e2
      go_wp2
      go_ret
      have e6 := H5.out
      refine ⟨_, v1, rfl, ?_, ?_, hv1, ?_, hk⟩
      · rw [e6]; exact H1.out
      · rw [e6]; exact H2.out
      · rw [← H4.out]; exact H3.out
end
end Go.Proofs.Ytfecgibdhglhiaa
