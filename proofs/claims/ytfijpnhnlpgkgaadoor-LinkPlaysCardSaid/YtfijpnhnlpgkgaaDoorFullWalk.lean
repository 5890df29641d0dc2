/-
  LinkFull walked: it returns true at every pair of numbers.
  Conditions: the variables errShort and errors.errorType hold what the text lays.
-/
import Derived.Test.YtfijpnhnlpgkgaaDoorBytes8Walk
namespace Go.Proofs.YtfijpnhnlpgkgaaDoor
open Go.RowKit
def sixty : Nat := 60000
def FuAt (w : World) (p : Nat) (iv : Value) (wr : World) : Prop := ∃ (i : Nat) (s : Ls), iv = .int .i64 i ∧ i ≤ 4 ∧ s.ep = 1 ∧ (s.wait 0).length = 60000 * i ∧ s.wait 1 = [] ∧ LL w (fun _ => False) p s wr
def FeAt (w : World) (p K : Nat) (W : World) : Prop := ∃ s : Ls, (s.wait 0).length = 240000 + K ∧ s.wait 1 = [] ∧ LL w (fun _ => False) p s W
set_option maxRecDepth 100000 in
set_option maxHeartbeats 4000000 in
theorem full_any (N : Nat) (c : Int) (w : World) (g : Glob w) (hn : N ≤ 65535) (hc : 0 ≤ c ∧ c ≤ 65535) : Calls Tryd.prog 10 #[.int .u16 N, .int .u16 c] w fun e w' => e = .returned (.bool true) ∧ Keeps (fun _ => False) w w' := by
  obtain ⟨i5, hi5, hx0, hx1, hx2⟩ := info_parts Tryd.info5
  have CE := Lib.hid (lexam_any w g)
  clear g
  obtain ⟨M, hM⟩ : ∃ M : Nat, c % 1000 = M := ⟨(c % 1000).toNat, by omega⟩
  have hM1 : c.tmod 1000 = M := by rw [Int.tmod_eq_emod_of_nonneg hc.1, hM]
  have hM2 : M ≤ 999 := by omega
  clear hM
  go_enter Tryd.func10, Tryd.ntmps10
  go_wp2_with fail
  refine CE.out.mono ?_; rintro e w1 ⟨rfl, k1⟩
  have CN := Lib.hid (ll_new (H := fun _ => False) k1 fun _ => False.elim)
  clear k1 CE
  go_wp2_with fail
  refine CN.out.mono ?_; rintro e w2 ⟨p, rfl, h2, _⟩
  have H2 := Lib.hid (show FuAt w p (.int .i64 0) w2 from ⟨0, _, rfl, by omega, rfl, rfl, rfl, h2⟩)
  clear h2 CN
  go_wp2_with fail
  go_loopw [7] (fun iv wr => FuAt w p iv wr) (fun iv _ => 5 - (intOf iv).toNat)
  case atStart => exact H2.out
  case round =>
    clear H2
    obtain ⟨i, s, rfl, hi, e1, e2, e3, hl⟩ := hrel
    by_cases hlt : i < 4
    · have hlt' : (i : Int) < 4 := by omega
      have HL := Lib.hid hl
      have HS := Lib.hid (⟨e1, e2, e3⟩ : s.ep = 1 ∧ (s.wait 0).length = 60000 * i ∧ s.wait 1 = [])
      clear hl e1 e2 e3
      go_wp2_with (refine wpList_make_full _ rfl (.const (.int .i64 60000)) (.const (.int .i64 60000)) 41 rfl wr.heap.size 5 i5 (.int .u8 0) 1 Tryd.underlying41 hi5 hx0 hx1 .i64 .i64 (sixty : Int) (sixty : Int) sixty rfl rfl rfl rfl ?b2 ?b3 (Nat.le_refl _) ?_)
      case b2 => rw [hx2]; unfold sixty; omega
      case b3 => unfold sixty; simp [maxLen]
      intro w4 r4 g4
      have hrow4 := row_of_owns r4
      rw [made_zero] at hrow4
      have hconv0 := hrow4.conv
      have hk4 : Keeps (fun _ => False) wr w4 := (Keeps.refl (fun _ => False) wr).grown g4 nofun
      have CI := ll_inject (HL.out.step hk4) (k := 0) (by decide) (zeros sixty) (by rw [zeros_len]; unfold sixty; simp [maxLen])
      obtain ⟨f1, f2⟩ := inj_fits (s := s) (k := 0) (c := zeros sixty) (by rw [HS.out.2.1, zeros_len]; unfold sixty; omega)
      rw [f1, f2] at CI
      replace CI : Calls Tryd.prog 30 #[.pointer (some ⟨p, 0, none⟩), .int .i64 0, .string (mk (zeros sixty))] w4 fun ev W2 => ev = .returned (.int .i64 0) ∧ FuAt w p (.int .i64 (i + 1 : Nat)) W2 := CI.mono fun ev W2 h => ⟨h.1, ⟨i + 1, { s with wait := upd s.wait 0 (s.wait 0 ++ zeros sixty) }, rfl, by omega, HS.out.1, by
        show (s.wait 0 ++ zeros sixty).length = _
        rw [List.length_append, HS.out.2.1, zeros_len]; unfold sixty; omega, HS.out.2.2, h.2.1⟩⟩
      replace CI := Lib.hid CI
      obtain ⟨Z, hZ⟩ : ∃ Z, mk (zeros sixty) = Z := ⟨_, rfl⟩
      have hconv4 : (convert 41 9 (.slice (some ⟨wr.heap.size, 0, none⟩) sixty sixty)).run Tryd.prog w4 = .ok (.string Z) w4 := by rw [← hZ]; exact hconv0
      rw [hZ] at CI
      clear hrow4 hconv0 hZ r4 g4 f1 f2 hk4
      go_wp2_with fail
      refine CI.out.mono ?_; rintro e w5 ⟨rfl, h5⟩
      have H5 := Lib.hid h5
      clear h5 CI hconv4
      go_wp2_with fail
      go_roundw
      case rel => exact H5.out
      case measure => simp [intOf]; omega
    · obtain rfl : i = 4 := by omega
      have HL := Lib.hid hl
      have HS := Lib.hid (⟨e1, e2, e3⟩ : s.ep = 1 ∧ (s.wait 0).length = 60000 * 4 ∧ s.wait 1 = [])
      clear hl e1 e2 e3 hlt hi
      go_wp2_with (refine wpList_make_full _ rfl (.tmp 31) (.tmp 31) 41 rfl wr.heap.size 5 i5 (.int .u8 0) 1 Tryd.underlying41 hi5 hx0 hx1 .i64 .i64 (N : Int) (N : Int) N rfl rfl rfl rfl ?b2 ?b3 (Nat.le_refl _) ?_)
      case b2 => rw [hx2]; omega
      case b3 => simp [maxLen]; omega
      intro w4 r4 g4
      have hrow4 := row_of_owns r4
      rw [made_zero] at hrow4
      have hconv0 := hrow4.conv
      have hk4 : Keeps (fun _ => False) wr w4 := (Keeps.refl (fun _ => False) wr).grown g4 nofun
      have CI := ll_inject (HL.out.step hk4) (k := 0) (by decide) (zeros N) (by rw [zeros_len]; simp [maxLen]; omega)
      obtain ⟨E, K, hEK, hI⟩ : ∃ (E : Int) (K : Nat), ((E = 4 ∧ K = 0 ∧ 22144 < (N : Int)) ∨ (E = 0 ∧ K = N ∧ (N : Int) ≤ 22144)) ∧ Calls Tryd.prog 30 #[.pointer (some ⟨p, 0, none⟩), .int .i64 0, .string (mk (zeros N))] w4 fun ev W2 => ev = .returned (.int .i64 E) ∧ FeAt w p K W2 := by
        by_cases hb : 22144 < N
        · refine ⟨4, 0, .inl ⟨rfl, rfl, by omega⟩, CI.mono fun ev W2 h => ?_⟩
          unfold injE injS at h
          rw [if_pos (by rw [HS.out.2.1, zeros_len]; omega), if_pos (by rw [HS.out.2.1, zeros_len]; omega)] at h
          exact ⟨h.1, s, by rw [HS.out.2.1], HS.out.2.2, h.2.1⟩
        · refine ⟨0, N, .inr ⟨rfl, rfl, by omega⟩, CI.mono fun ev W2 h => ?_⟩
          obtain ⟨f1, f2⟩ := inj_fits (s := s) (k := 0) (c := zeros N) (by rw [HS.out.2.1, zeros_len]; omega)
          rw [f1, f2] at h
          refine ⟨h.1, { s with wait := upd s.wait 0 (s.wait 0 ++ zeros N) }, ?_, HS.out.2.2, h.2.1⟩
          show (s.wait 0 ++ zeros N).length = _
          rw [List.length_append, HS.out.2.1, zeros_len]
      have HI := Lib.hid hI
      obtain ⟨Z, hZ⟩ : ∃ Z, mk (zeros N) = Z := ⟨_, rfl⟩
      have hconv4 : (convert 41 9 (.slice (some ⟨wr.heap.size, 0, none⟩) N N)).run Tryd.prog w4 = .ok (.string Z) w4 := by rw [← hZ]; exact hconv0
      rw [hZ] at HI
      clear hrow4 hconv0 hZ r4 g4 hk4 CI hI HL HS
      rcases hEK with ⟨rfl, rfl, hb⟩ | ⟨rfl, rfl, hb⟩
      all_goals
        go_wp2_with fail
        refine HI.out.mono ?_; rintro e w5 ⟨rfl, s5, l0, l1, h5⟩
        have H5 := Lib.hid (⟨l0, l1, h5⟩ : (s5.wait 0).length = 240000 + _ ∧ s5.wait 1 = [] ∧ LL w (fun _ => False) p s5 w5)
        clear HI h5 hconv4 l0 l1
        go_wp2_with (refine wpList_make_full _ rfl (.tmp 41) (.tmp 41) 41 rfl w5.heap.size 5 i5 (.int .u8 0) 1 Tryd.underlying41 hi5 hx0 hx1 .i64 .i64 (M : Int) (M : Int) M rfl rfl rfl rfl ?b2 ?b3 (Nat.le_refl _) ?_)
        case b2 => rw [hx2]; omega
        case b3 => simp [maxLen]; omega
        intro w6 r6 g6
        have hrow6 := row_of_owns r6
        rw [made_zero] at hrow6
        have hconv0 := hrow6.conv
        have hk6 : Keeps (fun _ => False) w5 w6 := (Keeps.refl (fun _ => False) w5).grown g6 nofun
        have hml : ([120] ++ zeros M).length = M + 1 := by rw [List.length_append, zeros_len]; simp; omega
        have CS := ll_send (H5.out.2.2.step hk6) (k := 1) (by decide) ([120] ++ zeros M) (by rw [hml]; simp [maxLen]; omega)
        obtain ⟨f1, f2⟩ := send_fits (s := s5) (k := 1) (m := [120] ++ zeros M) (by omega) (by omega) (by rw [hml, H5.out.2.1]; simp; omega)
        rw [f1, f2] at CS
        have hx6 : (⟨#[120]⟩ : ByteArray) ++ mk (zeros M) = mk ([120] ++ zeros M) := mk_append [120] _
        have hZs : (mk (zeros M)).size = M := by rw [mk_size, zeros_len]
        obtain ⟨Z6, hZ⟩ : ∃ Z, mk (zeros M) = Z := ⟨_, rfl⟩
        have hconv6 : (convert 41 9 (.slice (some ⟨w5.heap.size, 0, none⟩) M M)).run Tryd.prog w6 = .ok (.string Z6) w6 := by rw [← hZ]; exact hconv0
        rw [hZ] at hx6 hZs
        have hZl : Z6.size ≤ 999 := by omega
        replace CS := Lib.hid CS
        have HX6 := Lib.hid hx6
        have HML := Lib.hid hml
        clear hrow6 hconv0 hZ r6 g6 hk6 f1 f2 hx6 hml hZs
        go_wp2_with fail
        rw [HX6.out]
        refine CS.out.mono ?_; rintro e w7 ⟨rfl, h7, _⟩
        have C0 := ll_waiting h7 (k := 0) (by decide)
        have C1 := ll_space h7 (k := 0) (by decide)
        have C2 := ll_waiting h7 (k := 1) (by decide)
        have HE := Lib.hid h7.keeps
        change Calls _ _ _ _ (fun e w' => e = .returned (.int .i64 ((s5.wait 0).length : Nat)) ∧ w7 = w') at C0
        change Calls _ _ _ _ (fun e w' => e = .returned (.int .i64 (262144 - ((s5.wait 0).length : Nat))) ∧ w7 = w') at C1
        change Calls _ _ _ _ (fun e w' => e = .returned (.int .i64 ((s5.wait 1 ++ frm ([120] ++ zeros M)).length : Nat)) ∧ w7 = w') at C2
        rw [H5.out.1] at C0 C1
        rw [H5.out.2.1, List.nil_append, frm_length, HML.out, show ((4 + (M + 1) : Nat) : Int) = 5 + (M : Int) by omega] at C2
        replace C0 := Lib.hid C0
        replace C1 := Lib.hid C1
        replace C2 := Lib.hid C2
        clear h7 CS hconv6
        go_wp2_with fail
        refine C0.out.mono ?_; rintro e w8 ⟨rfl, rfl⟩
        go_wp2_with fail
        refine C1.out.mono ?_; rintro e w8 ⟨rfl, rfl⟩
        go_wp2_with fail
        refine C2.out.mono ?_; rintro e w8 ⟨rfl, rfl⟩
        go_wp2_with fail
        go_ret
        exact ⟨rfl, HE.out⟩
theorem full_int (n c : Int) (w : World) (g : Glob w) (hn : 0 ≤ n ∧ n ≤ 65535) (hc : 0 ≤ c ∧ c ≤ 65535) : Calls Tryd.prog 10 #[.int .u16 n, .int .u16 c] w fun e w' => e = .returned (.bool true) ∧ Keeps (fun _ => False) w w' := by
  obtain ⟨N, rfl⟩ : ∃ N : Nat, n = N := ⟨n.toNat, by omega⟩
  exact full_any N c w g (by omega) hc
end Go.Proofs.YtfijpnhnlpgkgaaDoor
