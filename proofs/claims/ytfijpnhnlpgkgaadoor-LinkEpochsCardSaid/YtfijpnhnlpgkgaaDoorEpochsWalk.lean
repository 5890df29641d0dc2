/-
  LinkEpochs walked: it returns true at every number and every text.
  Conditions: the variables errShort and errors.errorType hold what the text lays.
-/
import Derived.Test.YtfijpnhnlpgkgaaDoorBytes8Walk
namespace Go.Proofs.YtfijpnhnlpgkgaaDoor
open Go.RowKit
def EAt (w : World) (p : Nat) (m : Int) (iv : Value) (wr : World) : Prop := ∃ i : Int, iv = .int .i64 i ∧ 0 ≤ i ∧ i ≤ m ∧ LL w (fun _ => False) p (zeroS (i + 1)) wr
set_option maxRecDepth 100000 in
set_option maxHeartbeats 4000000 in
theorem epochs_any (n : Int) (S : Bs) (w : World) (g : Glob w) (hn : 0 ≤ n ∧ n ≤ 255) (hS : S.length ≤ maxLen) : Calls Tryd.prog 12 #[.int .u8 n, .string (mk S)] w fun e w' => e = .returned (.bool true) ∧ Keeps (fun _ => False) w w' := by
  have CE := Lib.hid (lexam_any w g)
  clear g
  unfold maxLen at hS
  obtain ⟨M, hM⟩ : ∃ M, n % 21 = M := ⟨_, rfl⟩
  have hM1 : n.tmod 21 = M := by rw [Int.tmod_eq_emod_of_nonneg hn.1, hM]
  have hM2 : 0 ≤ M ∧ M ≤ 20 := by omega
  clear hM
  obtain ⟨q, hq⟩ : ∃ q, min S.length 60 = q := ⟨_, rfl⟩
  obtain ⟨m, hm⟩ : ∃ m, 115 :: S.take 60 = m := ⟨_, rfl⟩
  have hx := cut_str 115 S 60 q hq
  rw [hm] at hx
  have hml : 1 ≤ m.length ∧ m.length ≤ 61 := by rw [← hm]; simp; omega
  have hss : (mk S).size = S.length := mk_size _
  obtain ⟨s, hs⟩ : ∃ s, mk S = s := ⟨_, rfl⟩
  rw [hs] at hss hx ⊢
  have hmn : (if (60 : Int) < (s.size : Int) then (60 : Int) else s.size) = (q : Int) := by split <;> omega
  have hqs : q ≤ s.size := by omega
  have hssz : s.size ≤ 9223372036854775807 := by omega
  have HX := Lib.hid hx
  have HSend : ∀ W p i, LL w (fun _ => False) p (zeroS (i + 1)) W → Calls Tryd.prog 26 #[.pointer (some ⟨p, 0, none⟩), .int .i64 0, .string (mk m)] W fun ev W2 => ev = .returned (.int .i64 0) ∧ LL w (fun _ => False) p { zeroS (i + 1) with wait := upd (zeroS (i + 1)).wait 0 ([] ++ frm m) } W2 := fun W p i h => by
    have C := ll_send h (k := 0) (by decide) m (by simp [maxLen]; omega)
    obtain ⟨f1, f2⟩ := send_fits (s := zeroS (i + 1)) (k := 0) (m := m) hml.1 (by omega) (by simp [zeroS]; omega)
    rw [f1, f2] at C
    exact C.mono fun ev W2 h2 => ⟨h2.1, h2.2.1⟩
  have HSend2 : ∀ W p i, LL w (fun _ => False) p { zeroS (i + 1) with wait := upd (zeroS (i + 1)).wait 0 ([] ++ frm m) } W → Calls Tryd.prog 26 #[.pointer (some ⟨p, 0, none⟩), .int .i64 1, .string (mk [115])] W fun ev W2 => ev = .returned (.int .i64 0) ∧
      ∃ s, LL w (fun _ => False) p s W2 ∧ s.ep = i + 1 ∧ (s.wait 0).length = m.length + 4 ∧ (s.wait 1).length = 5 := fun W p i h => by
    have C := ll_send h (k := 1) (by decide) [115] (by simp [maxLen])
    obtain ⟨f1, f2⟩ := send_fits (s := { zeroS (i + 1) with wait := upd (zeroS (i + 1)).wait 0 ([] ++ frm m) }) (k := 1) (m := [115]) (by decide) (by decide) (by show 0 + 4 + 1 ≤ 262144; decide)
    rw [f1, f2] at C
    refine C.mono fun ev W2 h2 => ⟨h2.1, _, h2.2.1, rfl, ?_, rfl⟩
    show ([] ++ frm m).length = _
    rw [List.nil_append, frm_length]; omega
  replace HSend := Lib.hid HSend
  replace HSend2 := Lib.hid HSend2
  obtain ⟨V, hV'⟩ : ∃ V, mk m = V := ⟨_, rfl⟩
  rw [hV'] at HSend HX
  clear hV' hx hs hss hm hq
  go_enter Tryd.func12, Tryd.ntmps12
  go_wp2_with fail
  refine CE.out.mono ?_; rintro e w1 ⟨rfl, k1⟩
  have CN := Lib.hid (ll_new (H := fun _ => False) k1 fun _ => False.elim)
  clear k1 CE
  go_wp2_with fail
  refine CN.out.mono ?_; rintro e w2 ⟨p, rfl, h2, _⟩
  have H2 := Lib.hid (show EAt w p M (.int .i64 0) w2 from ⟨0, rfl, by omega, by omega, h2⟩)
  clear h2 CN
  go_wp2_with fail
  go_loopw [7] (fun iv wr => EAt w p M iv wr) (fun iv _ => 21 - (intOf iv).toNat)
  case atStart => exact H2.out
  case round =>
    clear H2
    obtain ⟨i, rfl, hi1, hi2, hl⟩ := hrel
    by_cases hlt : i < M
    · have CS := Lib.hid (HSend.out _ _ _ hl)
      clear hl
      go_wp2_with fail
      rw [HX.out]
      refine CS.out.mono ?_; rintro e w3 ⟨rfl, h3⟩
      have CS2 := Lib.hid (HSend2.out _ _ _ h3)
      clear h3 CS
      go_wp2_with fail
      refine CS2.out.mono ?_; rintro e w4 ⟨rfl, s4, h4, e4, l0, l1⟩
      have CE := ll_epoch h4
      have C0 := ll_waiting h4 (k := 0) (by decide)
      have C1 := ll_waiting h4 (k := 1) (by decide)
      have CR := ll_reset h4 (by rw [e4]; omega)
      unfold ResetOut at CR
      rw [e4] at CE CR
      rw [l0] at C0
      rw [l1] at C1
      replace CE := Lib.hid CE
      replace C0 := Lib.hid C0
      replace C1 := Lib.hid C1
      replace CR := Lib.hid CR
      clear h4 e4 l0 l1 CS2
      go_wp2_with fail
      refine CE.out.mono ?_; rintro e w5 ⟨rfl, rfl⟩
      go_wp2_with fail
      refine C0.out.mono ?_; rintro e w5 ⟨rfl, rfl⟩
      go_wp2_with fail
      refine C1.out.mono ?_; rintro e w5 ⟨rfl, rfl⟩
      go_wp2_with fail
      refine CR.out.mono ?_; rintro e w5 ⟨rfl, h5, _⟩
      have D0 := Lib.hid (ll_waiting h5 (k := 0) (by decide))
      have D1 := Lib.hid (ll_waiting h5 (k := 1) (by decide))
      have D2 := Lib.hid (ll_space h5 (k := 0) (by decide))
      have H5 := Lib.hid (show EAt w p M (.int .i64 (i + 1)) w5 from ⟨i + 1, rfl, by omega, by omega, h5⟩)
      clear h5 CE C0 C1 CR
      go_wp2_with fail
      refine D0.out.mono ?_; rintro e w6 ⟨rfl, rfl⟩
      go_wp2_with fail
      refine D1.out.mono ?_; rintro e w6 ⟨rfl, rfl⟩
      go_wp2_with fail
      refine D2.out.mono ?_; rintro e w6 ⟨rfl, rfl⟩
      clear D0 D1 D2
      go_wp2_with fail
      go_roundw
      case rel => exact H5.out
      case measure => simp [intOf]; omega
    · obtain rfl : i = M := by omega
      have CE := Lib.hid (ll_epoch hl)
      have HE := Lib.hid hl.keeps
      clear hl
      go_wp2_with fail
      refine CE.out.mono ?_; rintro e w5 ⟨rfl, rfl⟩
      go_wp2_with fail
      refine (space_no p 2 (by decide) (by decide) _).mono ?_; rintro e w5 ⟨rfl, rfl⟩
      go_wp2_with fail
      refine (waiting_no p (-1) (by decide) (by decide) _).mono ?_; rintro e w5 ⟨rfl, rfl⟩
      go_wp2_with fail
      go_ret
      exact ⟨rfl, HE.out⟩
end Go.Proofs.YtfijpnhnlpgkgaaDoor
