/-
  FrameFeeds walked: it returns true at every list of pieces.
  Conditions: the variables errShort and errors.errorType hold what the text lays; the cells of the list may be read; each text takes at most 1048576 bytes.
-/
import Derived.Test.YtfijpnhnlpgkgaaDoorArgs
import Derived.Deep.DeepCutAuto
namespace Go.Proofs.YtfijpnhnlpgkgaaDoor
open Go.RowKit
theorem cell_keeps' {w w' : World} {F : Nat → Prop} {b o : Nat} {v : Value} (h : w.cell? ⟨b, o, none⟩ = some v) (k : Keeps F w w') (hF : ¬ F b) : w'.cell? ⟨b, o, none⟩ = some v := by
  rw [← h]
  unfold World.cell?
  rw [k.block b (World.block_lt_of_cell? w _ h) hF]
def pieceL (S : Bs) (P : Bool) (C : Int) : Bs :=
  if P then (if 200 < C then (packL S).1.take (C.toNat % ((packL S).1.length + 1)) else (packL S).1) else S
theorem packL_len (S : Bs) : (packL S).1.length ≤ S.length + 4 := by
  unfold packL; split
  · rw [frm_length]; omega
  · simp
theorem pieceL_len (S : Bs) (P : Bool) (C : Int) : (pieceL S P C).length ≤ S.length + 4 := by
  have := packL_len S
  unfold pieceL
  split
  · split
    · rw [List.length_take]; omega
    · exact this
  · omega
set_option maxRecDepth 100000 in
theorem bytes_any (S : Bs) (P : Bool) (C : Int) (w : World) (hS : S.length ≤ 1048576) (hC : 0 ≤ C ∧ C ≤ 255) :
    Calls Tryd.prog 17 #[.agg #[.string (mk S), .bool P, .int .u8 C]] w fun e w' => e = .returned (.string (mk (pieceL S P C))) ∧ Keeps (fun _ => False) w w' := by
  have CR := Lib.hid (fun W => rpack_any S W (by simp [maxLen]; omega))
  obtain ⟨s, hs⟩ : ∃ s, mk S = s := ⟨_, rfl⟩
  rw [hs] at CR ⊢
  cases P with
  | false =>
    have HE := Lib.hid (show mk (pieceL S false C) = s from hs)
    clear hs
    go_enter Tryd.func17, Tryd.ntmps17
    go_wp2_with fail
    go_ret
    exact ⟨by rw [HE.out]; rfl, (Keeps.refl _ _).alloc _⟩
  | true =>
    have hpl := packL_len S
    by_cases hc : 200 < C
    · obtain ⟨q, hq⟩ : ∃ q, C.toNat % ((packL S).1.length + 1) = q := ⟨_, rfl⟩
      have hq1 : q ≤ (packL S).1.length := by have := Nat.mod_lt C.toNat (show 0 < (packL S).1.length + 1 by omega); omega
      have hq2 : C % (((packL S).1.length : Int) + 1) = q := by
        have : C = (C.toNat : Int) := by omega
        rw [this, ← hq]; simp
      have hp : pieceL S true C = (packL S).1.take q := by unfold pieceL; rw [if_pos rfl, if_pos hc, hq]
      have hx : (mk (packL S).1).extract 0 q = mk (pieceL S true C) := by rw [mk_extract, hp]; rfl
      have hsz : (mk (packL S).1).size = (packL S).1.length := mk_size _
      obtain ⟨n, hn⟩ : ∃ n, (packL S).1.length = n := ⟨_, rfl⟩
      obtain ⟨t, ht⟩ : ∃ t, mk (packL S).1 = t := ⟨_, rfl⟩
      rw [ht] at hx hsz CR
      rw [hn] at hpl hq1 hq2 hsz
      have HX := Lib.hid hx
      clear hs hq hp hx hn ht
      go_enter Tryd.func17, Tryd.ntmps17
      go_wp2_with fail
      refine (CR.out _).mono ?_; rintro e w1 ⟨rfl, k1⟩
      have hl : w.heap.size < w1.heap.size := by have := k1.size; simp at this; omega
      have hd : w1.cell? ⟨w.heap.size, 2, none⟩ = some (.int .u8 C) := cell_keeps' (by rw [cell_at (heap_alloc_new _ _)]; rfl) k1 id
      have K1 := Lib.hid (((Keeps.refl (fun _ => False) w).alloc _).trans k1)
      clear k1 CR
      go_wp2_with fail
      go_ret
      exact ⟨by rw [← HX.out]; rfl, K1.out⟩
    · have HX := Lib.hid (show mk (pieceL S true C) = mk (packL S).1 from by unfold pieceL; rw [if_pos rfl, if_neg hc])
      have hc' : C ≤ 200 := by omega
      obtain ⟨t, ht⟩ : ∃ t, mk (packL S).1 = t := ⟨_, rfl⟩
      rw [ht] at CR HX
      clear hs hpl ht hc
      go_enter Tryd.func17, Tryd.ntmps17
      go_wp2_with fail
      refine (CR.out _).mono ?_; rintro e w1 ⟨rfl, k1⟩
      have hl : w.heap.size < w1.heap.size := by have := k1.size; simp at this; omega
      have hd : w1.cell? ⟨w.heap.size, 2, none⟩ = some (.int .u8 C) := cell_keeps' (by rw [cell_at (heap_alloc_new _ _)]; rfl) k1 id
      have K1 := Lib.hid (((Keeps.refl (fun _ => False) w).alloc _).trans k1)
      clear k1 CR
      go_wp2_with fail
      go_ret
      exact ⟨by rw [HX.out]; rfl, K1.out⟩
/-- what a reader at l, e makes of c -/
def feedL (l : Bs) (e : Int) (c : Bs) : List Bs × Bs × Int := if e = 0 then parse (l ++ c) else ([], l, e)
def FOut (w : World) (H : Nat → Prop) (r : Nat) (l : Bs) (e : Int) (c : Bs) (W : World) (ev : Ending) (W2 : World) : Prop :=
  ∃ ov, ev = .returned (.tuple #[ov, .int .i64 (feedL l e c).2.2]) ∧ RowAt W2 9 ov ((feedL l e c).1.map sV) ∧ (∀ b, ov.ownBlock = some b → W.heap.size ≤ b) ∧ RL w (HV H ov) r (feedL l e c).2.1 (feedL l e c).2.2 W2 ∧ HK w H W W2
def GOut (r : Nat) (l : Bs) (e : Int) (c : Bs) (W : World) (ev : Ending) (W2 : World) : Prop :=
  ∃ ov, ev = .returned (.tuple #[ov, .int .i64 (feedL l e c).2.2]) ∧ RowAt W2 9 ov ((feedL l e c).1.map sV) ∧ Rf W2 r (feedL l e c).2.1 (feedL l e c).2.2 ∧ Keeps (fun b => b = r) W W2
theorem feed_any {w W : World} {H : Nat → Prop} {r : Nat} {l : Bs} {e : Int} (g : Glob w) (h : RL w H r l e W) (c : Bs) (hl : l.length + c.length ≤ 2000000) :
    Calls Tryd.prog 18 #[.pointer (some ⟨r, 0, none⟩), .string (mk c)] W (FOut w H r l e c W) := by
  unfold FOut feedL
  by_cases he : e = 0
  · subst he
    rw [if_pos rfl]
    have hf := parse_facts _ (l ++ c) (Nat.le_refl _)
    rw [List.length_append] at hf
    exact rl_feed g h c (by omega) (by omega)
  · rw [if_neg he]
    refine (rl_feed_bad h he _).mono ?_
    rintro ev W2 ⟨rfl, hk⟩
    refine ⟨_, rfl, RowAt.nil _ _, nofun, (h.step hk).sub fun b hb => ?_, hk.mono fun _ _ h => h.elim⟩
    rcases hb with hb | hb
    · exact hb
    · cases hb
theorem rfeed_any {W : World} {r : Nat} {l : Bs} {e : Int} (h : Rf W r l e) (c : Bs) (hl : l.length + c.length ≤ 2000000) :
    Calls Tryd.prog 19 #[.pointer (some ⟨r, 0, none⟩), .string (mk c)] W (GOut r l e c W) := by
  unfold GOut feedL
  by_cases he : e = 0
  · subst he
    rw [if_pos rfl]
    have hf := parse_facts _ (l ++ c) (Nat.le_refl _)
    rw [List.length_append] at hf
    refine (rfeed_ok h c (by rw [List.length_append]; omega) (by omega)).mono ?_
    rintro ev W2 ⟨ov, h1, h2, h3, _, h5⟩
    exact ⟨ov, h1, h2, h3, h5⟩
  · rw [if_neg he]
    refine (rfeed_bad h he _).mono ?_
    rintro ev W2 ⟨rfl, hk⟩
    exact ⟨_, rfl, RowAt.nil _ _, h.keeps hk id, hk.mono fun _ _ h => h.elim⟩
theorem feedL_len (l : Bs) (e : Int) (c : Bs) (hl : l.length < 65540) : (feedL l e c).2.1.length < 65540 := by
  unfold feedL
  split
  · exact (parse_facts _ (l ++ c) (Nat.le_refl _)).2.2.2
  · exact hl
theorem feedL_count (l : Bs) (e : Int) (c : Bs) : (feedL l e c).1.length ≤ l.length + c.length := by
  unfold feedL
  split
  · have hf := parse_facts _ (l ++ c) (Nat.le_refl _)
    rw [List.length_append] at hf
    omega
  · simp
/-- a list of pieces that came in -/
def PieceArg (w : World) (a : Option Addr) (len : Nat) (S : Nat → Bs) (P : Nat → Bool) (C : Nat → Int) : Prop :=
  ∀ i, i < len → ∃ b off, a = some ⟨b, off, none⟩ ∧ w.cell? ⟨b, off + i * 3, none⟩ = some (.string (mk (S i))) ∧ w.cell? ⟨b, off + i * 3 + 1, none⟩ = some (.bool (P i)) ∧ w.cell? ⟨b, off + i * 3 + 2, none⟩ = some (.int .u8 (C i)) ∧ (0 ≤ C i ∧ C i ≤ 255) ∧ (S i).length ≤ 1048576 ∧ b < w.heap.size
def FdAt (w : World) (r x n : Nat) (iv : Value) (wr : World) : Prop :=
  ∃ (i : Nat) (l : Bs) (e : Int), iv = .int .i64 i ∧ i ≤ n ∧ l.length < 65540 ∧ RL w (fun b => b = x) r l e wr ∧ Rf wr x l e
set_option maxRecDepth 100000 in
set_option maxHeartbeats 4000000 in
theorem feeds_any (a : Option Addr) (len cap : Nat) (S : Nat → Bs) (P : Nat → Bool) (C : Nat → Int) (w : World) (g : Glob w) (hS : PieceArg w a len S P C) (hlen : len ≤ maxLen) :
    Calls Tryd.prog 3 #[.slice a len cap] w fun e w' => e = .returned (.bool true) ∧ Keeps (fun _ => False) w w' := by
  have CE := Lib.hid (examples_any w g)
  have HG := Lib.hid g
  have HS := Lib.hid hS
  unfold maxLen at hlen
  obtain ⟨n, hn⟩ : ∃ n, min len 30 = n := ⟨_, rfl⟩
  have hn1 : n ≤ len := by omega
  have hn2 : n ≤ 30 := by omega
  have hn3 : len ≤ n ∨ 30 ≤ n := by omega
  clear g hS hn
  go_enter Tryd.func3, Tryd.ntmps3
  go_wp2_with fail
  refine CE.out.mono ?_; rintro e w1 ⟨rfl, k1⟩
  have CN := Lib.hid (rl_new (w := w) (W := w1) (H := fun _ => False) k1 fun _ => False.elim)
  clear k1 CE
  go_wp2_with fail
  refine CN.out.mono ?_; rintro e w2 ⟨rfl, hrl, _⟩
  obtain ⟨r, hr⟩ : ∃ r, w1.heap.size = r := ⟨_, rfl⟩
  rw [hr] at hrl ⊢
  have hat : FdAt w r w2.heap.size n (.int .i64 0) (w2.alloc (.cells #[.string (mk []), .int .i64 0] 28)) := by
    refine ⟨0, [], 0, rfl, by omega, by decide, hrl.write ((Keeps.refl (fun _ => False) _).alloc _) (fun _ _ => False.elim) (fun b hb => .inr ⟨by omega, by simp; omega⟩), heap_alloc_new _ _⟩
  have HA := Lib.hid hat
  have hwx : w.heap.size ≤ w2.heap.size := hrl.keeps.size
  clear hat hrl hr CN
  go_wp2_with fail
  obtain ⟨x, hx⟩ : ∃ x, w2.heap.size = x := ⟨_, rfl⟩
  rw [hx] at HA hwx ⊢
  go_loopw [6] (fun iv wr => FdAt w r x n iv wr) (fun iv _ => n - (intOf iv).toNat)
  case atStart => exact HA.out
  case round =>
    clear HA hx
    obtain ⟨i, l, e, rfl, hi, hll, hrl, hrf⟩ := hrel
    have hkw := hrl.keeps
    have hxl := hrf.lt
    have HR := Lib.hid hrl
    have HF := Lib.hid hrf
    clear hrl hrf
    by_cases hlt : i < n
    · obtain ⟨b, off, rfl, e0, e1, e2, hC, hSl, hbl⟩ := HS.out i (by omega)
      have e0 := cell_keeps' e0 hkw id
      have e1 := cell_keeps' e1 hkw id
      have e2 := cell_keeps' e2 hkw id
      have h1 : (i : Int) < len := by omega
      have h2 : (i : Int) < 30 := by omega
      have hbw : b < wr.heap.size := Nat.lt_of_lt_of_le hbl hkw.size
      have CB := Lib.hid (bytes_any (S i) (P i) (C i) wr hSl hC)
      obtain ⟨c, hc⟩ : ∃ c, pieceL (S i) (P i) (C i) = c := ⟨_, rfl⟩
      have hcl : c.length ≤ 1048580 := by rw [← hc]; have := pieceL_len (S i) (P i) (C i); omega
      rw [hc] at CB
      obtain ⟨s, hs⟩ : ∃ s, mk (S i) = s := ⟨_, rfl⟩
      obtain ⟨p, hp⟩ : ∃ p, P i = p := ⟨_, rfl⟩
      obtain ⟨z, hz⟩ : ∃ z, C i = z := ⟨_, rfl⟩
      rw [hs, hp, hz] at CB
      rw [hs] at e0
      rw [hp] at e1
      rw [hz] at e2
      clear hs hp hz hc hSl hC hkw
      go_wp2_with fail
      refine CB.out.mono ?_; rintro ev w3 ⟨rfl, k3⟩
      have CF := feed_any HG.out (HR.out.step k3) c (by omega)
      have HF3 := Lib.hid (HF.out.keeps k3 id)
      have hfc := feedL_count l e c
      have hfl := feedL_len l e c hll
      obtain ⟨T, l2, e3, hT⟩ : ∃ T l2 e3, feedL l e c = (T, l2, e3) := ⟨_, _, _, rfl⟩
      have hG := fun W (h : Rf W x l e) => rfeed_any h c (show l.length + c.length ≤ 2000000 by omega)
      unfold FOut at CF
      unfold GOut at hG
      rw [hT] at CF hfc hfl
      simp only [hT] at hG
      have CF := Lib.hid CF
      have CG := Lib.hid hG
      simp only at hfc hfl
      clear k3 CB hT hG
      go_wp2_with fail
      refine CF.out.mono ?_; rintro ev w4 ⟨ov, rfl, ho, hof, hr4, hk4⟩
      have HF4 := Lib.hid (HF3.out.keeps hk4 fun h => h.2 rfl)
      obtain ⟨oa, oc, rfl⟩ := ho.val
      rw [List.length_map] at ho hof hr4 ⊢
      have HO := Lib.hid ho
      have HR4 := Lib.hid hr4
      clear hk4 ho hof hr4 CF HF3
      go_wp2_with fail
      refine (CG.out _ HF4.out).mono ?_; rintro ev w5 ⟨pv, rfl, hp, hf5, hk5⟩
      obtain ⟨pa, pc, rfl⟩ := hp.val
      rw [List.length_map] at hp ⊢
      have HP := Lib.hid hp
      have HO5 := Lib.hid (HO.out.keeps hk5 fun b hb hx => row_ne' HO.out HF4.out (by decide) (hx ▸ hb))
      have HR5 := Lib.hid (HR4.out.write (H' := fun b => b = x) hk5 (fun b _ hb => ⟨.inl hb, by subst hb; exact hwx⟩) fun b hb => .inl (.inl hb))
      have HF5 := Lib.hid hf5
      clear hp hf5 hk5 CG
      have d0 : w5.cell? ⟨x, 0, none⟩ = some (.string (mk l2)) := by rw [cell_at HF5.out]; rfl
      have d1 : w5.cell? ⟨x, 1, none⟩ = some (.int .i64 e3) := by rw [cell_at HF5.out]; rfl
      have hx5 := HF5.out.lt
      have hq : (mk l2).size = l2.length := mk_size l2
      obtain ⟨q, hq'⟩ : ∃ q, mk l2 = q := ⟨_, rfl⟩
      rw [hq'] at d0 hq
      clear hq'
      have hTl : T.length ≤ 2000000 := by omega
      have hfin : ∀ W, Keeps (fun _ => False) w5 W → FdAt w r x n (.int .i64 (i + 1 : Nat)) W := fun W hW => ⟨i + 1, l2, e3, rfl, by omega, hfl, HR5.out.step hW, HF5.out.keeps hW id⟩
      have HFIN := Lib.hid hfin
      clear hfin
      go_wp2_with (go_quiet (first
        | (go_at_call 20; refine Calls.quiet_of_same ((rl_left (HR5.out.step ((Keeps.refl _ _).drewN _))).mono fun e w' h => ⟨h.1, h.2.symm⟩))
        | (go_at_call 21; refine Calls.quiet_of_same ((rl_bad (HR5.out.step ((Keeps.refl _ _).drewN _))).mono fun e w' h => ⟨h.1, h.2.symm⟩))))
      clear hq d0 d1
      go_loopw [12] (fun iv wz => ∃ k : Nat, iv = .int .i64 k ∧ k ≤ T.length ∧ Keeps (fun _ => False) w5 wz) (fun iv _ => T.length - (intOf iv).toNat)
      case atStart => exact ⟨0, rfl, by omega, (Keeps.refl _ _).drewN _⟩
      case round =>
        obtain ⟨k, rfl, hk, hkz⟩ := hrel
        by_cases hkT : k < T.length
        · obtain ⟨b1, o1, q1, f1, _, _, hc1⟩ := (HO5.out.keeps hkz fun _ _ => id).cells (by rw [List.length_map]; omega)
          obtain ⟨b2, o2, q2, f2, _, _, hc2⟩ := (HP.out.keeps hkz fun _ _ => id).cells (by rw [List.length_map]; omega)
          simp only [Value.slice.injEq] at f1 f2
          obtain ⟨rfl, -, rfl⟩ := f1
          obtain ⟨rfl, -, rfl⟩ := f2
          have g1 := hc1 k (by rw [List.length_map]; exact hkT)
          have g2 := hc2 k (by rw [List.length_map]; exact hkT)
          rw [List.getElem_map] at g1 g2
          obtain ⟨y, hy⟩ : ∃ y, T[k] = y := ⟨_, rfl⟩
          rw [hy] at g1 g2
          unfold sV at g1 g2
          have hkT' : (k : Int) < T.length := by omega
          have HK := Lib.hid hkz
          clear hy hc1 hc2 hkz
          go_wp2_with fail
          go_quiet (fail)
          go_wp2_with fail
          go_roundw
          case rel => exact ⟨k + 1, by go_num, by omega, HK.out.drewN _⟩
          case measure => simp [intOf]; omega
        · have hkT' : ¬ (k : Int) < T.length := by omega
          have HK := Lib.hid hkz
          clear hkz
          go_wp2_with fail
          go_roundw
          case rel => exact HFIN.out _ HK.out
          case measure => simp [intOf]; omega
    · have hh : (¬ (i : Int) < len) ∨ ((i : Int) < len ∧ ¬ (i : Int) < 30) := by omega
      have HE := Lib.hid hkw
      clear hkw
      rcases hh with hlt' | ⟨hlt', h5⟩
      all_goals
        go_wp2_with fail
        go_ret
        exact ⟨rfl, HE.out⟩
end Go.Proofs.YtfijpnhnlpgkgaaDoor
