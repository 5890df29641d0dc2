/-
  LinkQuiet walked: it returns true at every number.
  Conditions: the variables errShort and errors.errorType hold what the text lays.
-/
import Derived.Test.YtfijpnhnlpgkgaaDoorLinkExam
import Derived.Deep.DeepCutAuto
namespace Go.Proofs.YtfijpnhnlpgkgaaDoor
open Go.RowKit
theorem tick_cases (j : Int) (h : j < 20) : (j < 8 ∧ tickA j = false) ∨ (8 ≤ j ∧ (j - 8).tmod 4 = 0 ∧ tickA j = true) ∨ (8 ≤ j ∧ ∃ q, (j - 8).tmod 4 = q ∧ (q == 0) = false ∧ tickA j = false) := by
  unfold tickA
  rw [decide_eq_true h]
  by_cases h8 : 8 ≤ j
  · rw [decide_eq_true h8, Int.tmod_eq_emod_of_nonneg (by omega)]
    by_cases hq : (j - 8) % 4 = 0
    · right; left; exact ⟨h8, hq, by rw [hq]; rfl⟩
    · right; right
      have hb : ((j - 8) % 4 == 0) = false := by simpa using hq
      exact ⟨h8, _, rfl, hb, by rw [hb]; rfl⟩
  · left; exact ⟨by omega, by rw [decide_eq_false h8]; rfl⟩
def QAt (w : World) (p : Nat) (m : Int) (iv : Value) (wr : World) : Prop := ∃ j : Int, iv = .int .i64 j ∧ 1 ≤ j ∧ j ≤ m + 1 ∧ LL w (fun _ => False) p { zeroS 1 with gone := j - 1 } wr
set_option maxRecDepth 100000 in
set_option maxHeartbeats 1000000 in
theorem quiet_any (n : Int) (w : World) (g : Glob w) (hn : 0 ≤ n ∧ n ≤ 255) : Calls Tryd.prog 14 #[.int .u8 n] w fun e w' => e = .returned (.bool true) ∧ Keeps (fun _ => False) w w' := by
  have CE := Lib.hid (lexam_any w g)
  clear g
  obtain ⟨m, hm⟩ : ∃ m, n % 20 = m := ⟨_, rfl⟩
  have hm1 : n.tmod 20 = m := by rw [Int.tmod_eq_emod_of_nonneg hn.1, hm]
  have hm2 : 0 ≤ m ∧ m ≤ 19 := by omega
  clear hm
  go_enter Tryd.func14, Tryd.ntmps14
  go_wp2_with fail
  refine CE.out.mono ?_; rintro e w1 ⟨rfl, k1⟩
  have CN := Lib.hid (ll_new (H := fun _ => False) k1 fun _ => False.elim)
  clear k1 CE
  go_wp2_with fail
  refine CN.out.mono ?_; rintro e w2 ⟨p, rfl, h2, _⟩
  have H2 := Lib.hid (show QAt w p m (.int .i64 1) w2 from ⟨1, rfl, by omega, by omega, h2⟩)
  clear h2 CN
  go_wp2_with fail
  go_loopw [5] (fun iv wr => QAt w p m iv wr) (fun iv _ => 21 - (intOf iv).toNat)
  case atStart => exact H2.out
  case round =>
    clear H2
    obtain ⟨j, rfl, hj1, hj2, hl⟩ := hrel
    by_cases hlt : j ≤ m
    · have CT := ll_tick hl (by simp only; omega)
      unfold TickOut at CT
      simp only at CT
      have e0 : j - 1 + 1 = j := by omega
      rw [e0, decide_eq_false (show ¬ 20 ≤ j by omega)] at CT
      rcases tick_cases j (by omega) with ⟨c1, c2⟩ | ⟨c1, c3, c2⟩ | ⟨c1, q, c3, c4, c2⟩
      all_goals
        rw [c2] at CT
        have CT := Lib.hid CT
        clear c2 hl e0
        go_wp2_with fail
        refine CT.out.mono ?_; rintro e w3 ⟨rfl, h3, _⟩
        have H3 := Lib.hid (show QAt w p m (.int .i64 (j + 1)) w3 from ⟨j + 1, rfl, by omega, by omega, by rw [Int.add_sub_cancel]; exact h3⟩)
        clear h3 CT
        go_wp2
        go_roundw
        case rel => exact H3.out
        case measure => simp [intOf]; omega
    · obtain rfl : j = m + 1 := by omega
      have CH := Lib.hid (ll_heard hl)
      clear hl
      go_wp2_with fail
      refine CH.out.mono ?_; rintro e w3 ⟨rfl, h3, _⟩
      have H3 := Lib.hid (show QAt w p 20 (.int .i64 1) w3 from ⟨1, rfl, by omega, by omega, h3⟩)
      clear h3 CH
      go_wp2_with fail
      go_loopw [8] (fun iv wr => QAt w p 20 iv wr) (fun iv _ => 21 - (intOf iv).toNat)
      case atStart => exact H3.out
      case round =>
        clear H3 hlt hj1 hj2 hm1 hm2
        obtain ⟨j, rfl, hj1, hj2, hl⟩ := hrel
        by_cases hlt : j ≤ 20
        · have CT := ll_tick hl (by simp only; omega)
          unfold TickOut at CT
          simp only at CT
          have e0 : j - 1 + 1 = j := by omega
          rw [e0] at CT
          by_cases h20 : j = 20
          · subst h20
            rw [show tickA 20 = false from rfl, show decide ((20 : Int) ≤ 20) = true from rfl] at CT
            have CT := Lib.hid CT
            clear hl e0
            go_wp2_with fail
            refine CT.out.mono ?_; rintro e w3 ⟨rfl, h3, _⟩
            have H3 := Lib.hid (show QAt w p 20 (.int .i64 21) w3 from ⟨21, rfl, by omega, by omega, h3⟩)
            clear h3 CT
            go_wp2
            go_roundw
            case rel => exact H3.out
            case measure => simp [intOf]
          · have hne : (j == 20) = false := by simpa using h20
            have h19 : j < 20 := by omega
            rw [decide_eq_false (show ¬ 20 ≤ j by omega)] at CT
            rcases tick_cases j h19 with ⟨c1, c2⟩ | ⟨c1, c3, c2⟩ | ⟨c1, q, c3, c4, c2⟩
            all_goals
              rw [c2] at CT
              have CT := Lib.hid CT
              clear c2 hl e0
              go_wp2_with fail
              refine CT.out.mono ?_; rintro e w3 ⟨rfl, h3, _⟩
              have H3 := Lib.hid (show QAt w p 20 (.int .i64 (j + 1)) w3 from ⟨j + 1, rfl, by omega, by omega, by rw [Int.add_sub_cancel]; exact h3⟩)
              clear h3 CT
              go_wp2
              go_roundw
              case rel => exact H3.out
              case measure => simp [intOf]; omega
        · have HE := Lib.hid hl.keeps
          clear hl
          go_wp2_with fail
          go_ret
          exact ⟨rfl, HE.out⟩
end Go.Proofs.YtfijpnhnlpgkgaaDoor
