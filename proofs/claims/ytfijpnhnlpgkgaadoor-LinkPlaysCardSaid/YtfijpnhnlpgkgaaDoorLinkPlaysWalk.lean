/-
  LinkPlays walked: it returns true at every list of deeds.
  Conditions: the variables errShort and errors.errorType hold what the text lays; the cells of the list may be read; each text takes at most 2^47 - 4096 bytes.
-/
import Derived.Test.YtfijpnhnlpgkgaaDoorDoesWalk
namespace Go.Proofs.YtfijpnhnlpgkgaaDoor
open Go.RowKit
structure Dd where
  (kd way : Int) (S : Bs) (N : Int) (lg : Bool)
/-- a list of deeds that came in -/
def DeedArg (w : World) (a : Option Addr) (len : Nat) (D : Nat → Dd) : Prop :=
  ∀ i, i < len → ∃ b off, a = some ⟨b, off, none⟩ ∧ w.cell? ⟨b, off + i * 5, none⟩ = some (.int .u8 (D i).kd) ∧ w.cell? ⟨b, off + i * 5 + 1, none⟩ = some (.int .i64 (D i).way) ∧ w.cell? ⟨b, off + i * 5 + 2, none⟩ = some (.string (mk (D i).S)) ∧
    w.cell? ⟨b, off + i * 5 + 3, none⟩ = some (.int .i64 (D i).N) ∧ w.cell? ⟨b, off + i * 5 + 4, none⟩ = some (.bool (D i).lg) ∧ (0 ≤ (D i).kd ∧ (D i).kd ≤ 255) ∧ (D i).S.length ≤ 140737488351232 ∧ b < w.heap.size
def PlAt (w : World) (p x : Nat) (lv iv : Value) (wr : World) : Prop :=
  ∃ (i lc : Nat) (s : Ls), iv = .int .i64 i ∧ lv = .int .i64 lc ∧ i ≤ 60 ∧ lc ≤ i ∧ BB w (fun _ => False) p x s s wr ∧ 0 ≤ s.ep ∧ s.ep ≤ i + 1 ∧ 0 ≤ s.gone ∧ s.gone ≤ i
set_option maxRecDepth 100000 in
set_option maxHeartbeats 4000000 in
theorem lplays_any (a : Option Addr) (len cap : Nat) (D : Nat → Dd) (w : World) (g : Glob w) (hD : DeedArg w a len D) :
    Calls Tryd.prog 13 #[.slice a len cap] w fun e w' => e = .returned (.bool true) ∧ Keeps (fun _ => False) w w' := by
  have CE := Lib.hid (lexam_any w g)
  have HG := Lib.hid g
  have HD := Lib.hid hD
  clear g hD
  go_enter Tryd.func13, Tryd.ntmps13
  go_wp2_with fail
  refine CE.out.mono ?_; rintro e w1 ⟨rfl, k1⟩
  have CN := Lib.hid (ll_new (H := fun _ => False) k1 fun _ => False.elim)
  clear k1 CE
  go_wp2_with fail
  refine CN.out.mono ?_; rintro e w2 ⟨p, rfl, h2, _⟩
  have CR := Lib.hid ((rnew8_any w2).mono (R' := fun ev W2 => ∃ x, ev = .returned (.pointer (some ⟨x, 0, none⟩)) ∧ PlAt w p x (.int .i64 0) (.int .i64 0) W2) fun ev W2 h => by
    obtain ⟨x, e1, ⟨F, g1, g2⟩, g3⟩ := h
    have hks := h2.keeps.size
    exact ⟨x, e1, 0, 0, zeroS 1, rfl, rfl, by omega, by omega, ⟨F, h2.write g3 (fun _ _ => False.elim) (fun b hb => by rcases hb with hb | hb; exact .inr ⟨g2 b hb, g1.lt hb⟩; exact hb.elim), g1, fun b hb => ⟨by have := g2 b hb; omega, id⟩⟩, by decide, by decide, by decide, by decide⟩)
  clear h2 CN
  go_wp2_with fail
  refine CR.out.mono ?_; rintro e w3 ⟨x, rfl, h3⟩
  have H3 := Lib.hid h3
  clear h3 CR
  go_wp2_with fail
  go_loopw [6, 7] (fun lv iv wr => PlAt w p x lv iv wr) (fun _ iv _ => 60 - (intOf iv).toNat)
  case atStart => exact H3.out
  case round =>
    clear H3
    obtain ⟨i, lc, s, rfl, rfl, hi, hlc, hbb, e1, e2, g1, g2⟩ := hrel
    have HB := Lib.hid hbb
    have hkw := hbb.keeps
    clear hbb
    by_cases hlt : i < len ∧ i < 60
    · obtain ⟨hl1, hl2⟩ := hlt
      obtain ⟨b, off, rfl, c0, c1, c2, c3, c4, hkd, hSl, hbl⟩ := HD.out i hl1
      replace c0 := cell_keeps' c0 hkw id
      replace c1 := cell_keeps' c1 hkw id
      replace c2 := cell_keeps' c2 hkw id
      replace c3 := cell_keeps' c3 hkw id
      replace c4 := cell_keeps' c4 hkw id
      have hbw : b < wr.heap.size := Nat.lt_of_lt_of_le hbl hkw.size
      have h1 : (i : Int) < len := by omega
      have h2 : (i : Int) < 60 := by omega
      obtain ⟨kd, hkd'⟩ : ∃ v, (D i).kd = v := ⟨_, rfl⟩
      obtain ⟨way, hway⟩ : ∃ v, (D i).way = v := ⟨_, rfl⟩
      obtain ⟨S, hS⟩ : ∃ v, (D i).S = v := ⟨_, rfl⟩
      obtain ⟨N, hN⟩ : ∃ v, (D i).N = v := ⟨_, rfl⟩
      obtain ⟨lg, hlg⟩ : ∃ v, (D i).lg = v := ⟨_, rfl⟩
      rw [hkd'] at c0 hkd
      rw [hway] at c1
      rw [hS] at c2 hSl
      rw [hN] at c3
      rw [hlg] at c4
      have HB2 := Lib.hid (⟨e1, e2, g1, g2⟩ : 0 ≤ s.ep ∧ s.ep ≤ i + 1 ∧ 0 ≤ s.gone ∧ s.gone ≤ i)
      clear hkd' hway hS hN hlg e1 e2 g1 g2 hkw hl1 hbl
      go_upto_region 13 with fail
      have hb1 := HB.out.write (H' := fun b => b = wr.heap.size) ((Keeps.refl (fun _ => False) wr).alloc (.cells #[.int .u8 kd, .int .i64 way, .string (mk S), .int .i64 N, .bool lg] 66)) (fun _ _ => False.elim) (fun b hb => .inr ⟨by omega, by rw [hb]; simp⟩)
      have ho1 : (wr.alloc (.cells #[.int .u8 kd, .int .i64 way, .string (mk S), .int .i64 N, .bool lg] 66)).heap[wr.heap.size]? = some (.cells #[.int .u8 kd, .int .i64 way, .string (mk S), .int .i64 N, .bool lg] 66 (0, 0)) := heap_alloc_new _ _
      have hwu : w.heap.size ≤ wr.heap.size := HB.out.keeps.size
      obtain ⟨ub, hub⟩ : ∃ ub, wr.heap.size = ub := ⟨_, rfl⟩
      obtain ⟨W1, hW1⟩ : ∃ W1, wr.alloc (.cells #[.int .u8 kd, .int .i64 way, .string (mk S), .int .i64 N, .bool lg] 66) = W1 := ⟨_, rfl⟩
      rw [hW1, hub] at hb1 ho1
      rw [hub] at hwu
      rw [hW1, hub]
      have HB1 := Lib.hid hb1
      have HO1 := Lib.hid ho1
      have d4 : W1.cell? ⟨ub, 4, none⟩ = some (.bool lg) := by rw [cell_at ho1]; rfl
      have f4 := free_at ho1 4
      have l4 := lt_at ho1
      clear hb1 ho1 hub hW1 c0 c1 c2 c3 c4 hbw HB
      have hcase : (lg = false) ∨ (lg = true ∧ (lc : Int) + 1 ≤ 8) ∨ (lg = true ∧ ¬ (lc : Int) + 1 ≤ 8) := by
        cases lg
        · exact .inl rfl
        · rcases Classical.em ((lc : Int) + 1 ≤ 8) with h | h
          · exact .inr (.inl ⟨rfl, h⟩)
          · exact .inr (.inr ⟨rfl, h⟩)
      rcases hcase with rfl | ⟨rfl, h8⟩ | ⟨rfl, h8⟩
      case' inl =>
        go_upto_region 16 with fail
        have hb2 := HB1.out.write (K := fun b => b = ub) (H' := fun b => b = ub) ((Keeps.refl (fun b => b = ub) W1).setCell (p := ⟨ub, 4, none⟩) (fun _ => rfl) (.bool false)) (fun b _ hb => ⟨hb, by subst hb; exact hwu⟩) (fun b hb => .inl hb)
        have ho2 : (W1.setCell ⟨ub, 4, none⟩ (.bool false)).heap[ub]? = some (.cells #[.int .u8 kd, .int .i64 way, .string (mk S), .int .i64 N, .bool false] 66 (0, 0)) := by rw [block_same HO1.out]; rfl
        obtain ⟨W2, hW2⟩ : ∃ W2, W1.setCell ⟨ub, 4, none⟩ (.bool false) = W2 := ⟨_, rfl⟩
        rw [hW2] at hb2 ho2 ⊢
        have CD := Lib.hid (does_any HG.out hb2 (by have := HB2.out; omega) kd way N S false hkd hSl)
        have e0 : W2.cell? ⟨ub, 0, none⟩ = some (.int .u8 kd) := by rw [cell_at ho2]; rfl
        have e1 : W2.cell? ⟨ub, 1, none⟩ = some (.int .i64 way) := by rw [cell_at ho2]; rfl
        have e2 : W2.cell? ⟨ub, 2, none⟩ = some (.string (mk S)) := by rw [cell_at ho2]; rfl
        have e3 : W2.cell? ⟨ub, 3, none⟩ = some (.int .i64 N) := by rw [cell_at ho2]; rfl
        have e4 : W2.cell? ⟨ub, 4, none⟩ = some (.bool false) := by rw [cell_at ho2]; rfl
        have HO2 := Lib.hid (show ∃ c, c[1]? = some (Value.int .i64 way) ∧ W2.heap[ub]? = some (.cells c 66 (0, 0)) from ⟨_, rfl, ho2⟩)
        have hl2u := lt_at ho2
        have HLC := Lib.hid (show (lc : Nat) ≤ i + 1 from by omega)
        clear hb2 ho2 hW2 HB1 HO1
      case' inr.inl =>
        go_upto_region 16 with fail
        have hb2 := HB1.out.write (K := fun b => b = ub) (H' := fun b => b = ub) ((Keeps.refl (fun b => b = ub) W1).setCell (p := ⟨ub, 4, none⟩) (fun _ => rfl) (.bool true)) (fun b _ hb => ⟨hb, by subst hb; exact hwu⟩) (fun b hb => .inl hb)
        have ho2 : (W1.setCell ⟨ub, 4, none⟩ (.bool true)).heap[ub]? = some (.cells #[.int .u8 kd, .int .i64 way, .string (mk S), .int .i64 N, .bool true] 66 (0, 0)) := by rw [block_same HO1.out]; rfl
        obtain ⟨W2, hW2⟩ : ∃ W2, W1.setCell ⟨ub, 4, none⟩ (.bool true) = W2 := ⟨_, rfl⟩
        rw [hW2] at hb2 ho2 ⊢
        have CD := Lib.hid (does_any HG.out hb2 (by have := HB2.out; omega) kd way N S true hkd hSl)
        have e0 : W2.cell? ⟨ub, 0, none⟩ = some (.int .u8 kd) := by rw [cell_at ho2]; rfl
        have e1 : W2.cell? ⟨ub, 1, none⟩ = some (.int .i64 way) := by rw [cell_at ho2]; rfl
        have e2 : W2.cell? ⟨ub, 2, none⟩ = some (.string (mk S)) := by rw [cell_at ho2]; rfl
        have e3 : W2.cell? ⟨ub, 3, none⟩ = some (.int .i64 N) := by rw [cell_at ho2]; rfl
        have e4 : W2.cell? ⟨ub, 4, none⟩ = some (.bool true) := by rw [cell_at ho2]; rfl
        have HO2 := Lib.hid (show ∃ c, c[1]? = some (Value.int .i64 way) ∧ W2.heap[ub]? = some (.cells c 66 (0, 0)) from ⟨_, rfl, ho2⟩)
        have hl2u := lt_at ho2
        have HLC := Lib.hid (show (lc + 1 : Nat) ≤ i + 1 from by omega)
        clear hb2 ho2 hW2 HB1 HO1
      case' inr.inr =>
        go_upto_region 16 with fail
        have hb2 := HB1.out.write (K := fun b => b = ub) (H' := fun b => b = ub) ((Keeps.refl (fun b => b = ub) W1).setCell (p := ⟨ub, 4, none⟩) (fun _ => rfl) (.bool false)) (fun b _ hb => ⟨hb, by subst hb; exact hwu⟩) (fun b hb => .inl hb)
        have ho2 : (W1.setCell ⟨ub, 4, none⟩ (.bool false)).heap[ub]? = some (.cells #[.int .u8 kd, .int .i64 way, .string (mk S), .int .i64 N, .bool false] 66 (0, 0)) := by rw [block_same HO1.out]; rfl
        obtain ⟨W2, hW2⟩ : ∃ W2, W1.setCell ⟨ub, 4, none⟩ (.bool false) = W2 := ⟨_, rfl⟩
        rw [hW2] at hb2 ho2 ⊢
        have CD := Lib.hid (does_any HG.out hb2 (by have := HB2.out; omega) kd way N S false hkd hSl)
        have e0 : W2.cell? ⟨ub, 0, none⟩ = some (.int .u8 kd) := by rw [cell_at ho2]; rfl
        have e1 : W2.cell? ⟨ub, 1, none⟩ = some (.int .i64 way) := by rw [cell_at ho2]; rfl
        have e2 : W2.cell? ⟨ub, 2, none⟩ = some (.string (mk S)) := by rw [cell_at ho2]; rfl
        have e3 : W2.cell? ⟨ub, 3, none⟩ = some (.int .i64 N) := by rw [cell_at ho2]; rfl
        have e4 : W2.cell? ⟨ub, 4, none⟩ = some (.bool false) := by rw [cell_at ho2]; rfl
        have HO2 := Lib.hid (show ∃ c, c[1]? = some (Value.int .i64 way) ∧ W2.heap[ub]? = some (.cells c 66 (0, 0)) from ⟨_, rfl, ho2⟩)
        have hl2u := lt_at ho2
        have HLC := Lib.hid (show (lc + 1 : Nat) ≤ i + 1 from by omega)
        clear hb2 ho2 hW2 HB1 HO1
      all_goals
        clear d4 f4 l4 hkd hSl
        go_wp2_with fail
        refine CD.out.mono ?_; rintro e w5 ⟨rfl, s', hb5, hbd, hk5⟩
        have q1 : w5.cell? ⟨ub, 1, none⟩ = some (.int .i64 way) := by
          obtain ⟨c, hc1, hc2⟩ := HO2.out
          rw [cell_at ((hk5.block ub (lt_at hc2) fun hz => hz.2 rfl).trans hc2), hc1]
        have ql : ub < w5.heap.size := Nat.lt_of_lt_of_le hl2u hk5.size
        obtain ⟨q2, qx⟩ := hb5.epoch
        have H5 := Lib.hid hb5
        have HBD := Lib.hid hbd
        clear hb5 hbd hk5 CD e0 e1 e2 e3 e4 hl2u HO2
        go_wp2_with (go_quiet (first
          | (go_at_call 29; refine Calls.quiet_of_same ((bb_epoch (H5.out.step ((Keeps.refl _ _).drewN _))).mono fun e w' h => ⟨h.1, h.2.symm⟩))
          | (go_at_call 27; refine Calls.quiet_of_same ((bb_waiting (H5.out.step ((Keeps.refl _ _).drewN _)) _).mono fun e w' h => ⟨h.1, h.2.symm⟩))
          | (go_at_call 35; refine Calls.quiet_of_same ((bb_rwaiting (H5.out.step ((Keeps.refl _ _).drewN _)) _).mono fun e w' h => ⟨h.1, h.2.symm⟩))
          | (go_at_call 32; refine Calls.quiet_of_same ((bb_space (H5.out.step ((Keeps.refl _ _).drewN _)) _).mono fun e w' h => ⟨h.1, h.2.symm⟩))
          | (go_at_call 36; refine Calls.quiet_of_same ((bb_rspace (H5.out.step ((Keeps.refl _ _).drewN _)) _).mono fun e w' h => ⟨h.1, h.2.symm⟩))))
        go_roundw
        case rel =>
          have hb := (H5.out.step ((Keeps.refl (fun _ => False) w5).drewN nq)).sub (H' := fun _ => False) fun _ => False.elim
          have := HB2.out
          have := HBD.out
          first
          | exact ⟨i + 1, lc, s', rfl, rfl, by omega, HLC.out, hb, by omega, by omega, by omega, by omega⟩
          | exact ⟨i + 1, lc + 1, s', rfl, rfl, by omega, HLC.out, hb, by omega, by omega, by omega, by omega⟩
        case measure => simp [intOf]; omega
    · have hh : (¬ (i : Int) < len) ∨ ((i : Int) < len ∧ ¬ (i : Int) < 60) := by omega
      have HE := Lib.hid hkw
      clear hkw hlt
      rcases hh with hlt' | ⟨hlt', h5⟩
      all_goals
        go_wp2_with fail
        go_ret
        exact ⟨rfl, HE.out⟩
end Go.Proofs.YtfijpnhnlpgkgaaDoor
