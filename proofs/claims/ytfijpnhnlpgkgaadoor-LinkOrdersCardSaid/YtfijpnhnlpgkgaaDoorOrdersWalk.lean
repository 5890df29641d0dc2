/-
  LinkOrders walked: it returns true at every two lists of texts and every list of cuts.
  Conditions: the variables errShort and errors.errorType hold what the text lays; the cells of the lists may be read.
-/
import Derived.Test.YtfijpnhnlpgkgaaDoorLinkTwo
import Derived.Test.YtfijpnhnlpgkgaaDoorCutsWalk
namespace Go.Proofs.YtfijpnhnlpgkgaaDoor
open Go.RowKit
/-- what is sent -/
def ordA (S0 S1 : Nat → Bs) (k i : Nat) : Bs := if k = 0 then 117 :: (S0 i).take 60 else 100 :: (S1 i).take 60
theorem ordA_len (S0 S1 : Nat → Bs) (k i : Nat) : 1 ≤ (ordA S0 S1 k i).length ∧ (ordA S0 S1 k i).length ≤ 61 := by
  unfold ordA; split <;> (simp; omega)
def O1 (w : World) (p q n0 n1 : Nat) (S0 S1 : Nat → Bs) (iv : Value) (W : World) : Prop :=
  ∃ (i : Nat) (c : Nat → Nat) (v : Nat → Value), iv = .int .i64 i ∧ i ≤ 10 ∧ c 0 = min i n0 ∧ c 1 = min i n1 ∧ Ost w p q (ordA S0 S1) c v W
def O2 (w w2 : World) (p q r : Nat) (v : Nat → Value) (sent : Nat → List Bs) (iv : Value) (W : World) : Prop :=
  ∃ (i : Nat) (vg : Nat → Value), iv = .int .i64 i ∧ Og w w2 p q r v sent i vg W
set_option maxRecDepth 100000 in
set_option maxHeartbeats 4000000 in
theorem orders_any (a0 a1 a2 : Option Addr) (len0 cap0 len1 cap1 len2 cap2 : Nat) (S0 S1 : Nat → Bs) (z : Nat → Int) (w : World) (g : Glob w) (hS0 : StrArg w a0 len0 S0) (hS1 : StrArg w a1 len1 S1) (hZ : U8Arg w a2 len2 z) :
    Calls Tryd.prog 8 #[.slice a0 len0 cap0, .slice a1 len1 cap1, .slice a2 len2 cap2] w fun e w' => e = .returned (.bool true) ∧ Keeps (fun _ => False) w w' := by
  obtain ⟨i9, hi9, hy0, hy1, hy2⟩ := info_parts Tryd.info9
  have CE := Lib.hid (lexam_any w g)
  have HG := Lib.hid g
  have HS0 := Lib.hid hS0
  have HS1 := Lib.hid hS1
  have HZ := Lib.hid hZ

  clear g hS0 hS1 hZ
  go_enter Tryd.func8, Tryd.ntmps8
  go_wp2_with fail
  refine CE.out.mono ?_; rintro e w1 ⟨rfl, k1⟩
  have CN := Lib.hid (ll_new (H := fun _ => False) k1 fun _ => False.elim)
  clear k1 CE
  go_wp2_with fail
  refine CN.out.mono ?_; rintro e w2 ⟨p, rfl, h2, _⟩
  have hat : O1 w p w2.heap.size len0 len1 S0 S1 (.int .i64 0) (w2.alloc (.cells #[.slice none 0 0, .slice none 0 0] 51)) := by
    have hk : Keeps (fun _ => False) w2 (w2.alloc (.cells #[.slice none 0 0, .slice none 0 0] 51)) := (Keeps.refl _ _).alloc _
    have hnew : ∀ b, H2 w2.heap.size (fun _ => .slice none 0 0) b → b = w2.heap.size := fun b hb => by
      rcases hb with rfl | ⟨k, _, hb⟩
      · rfl
      · cases hb
    refine ⟨0, fun _ => 0, fun _ => .slice none 0 0, rfl, by omega, by simp, by simp, zeroS 1, h2.write hk (fun _ _ => False.elim) (fun b hb => .inr ?_), ⟨heap_alloc_new _ _, fun _ _ => RowAt.nil _ _, nofun, fun b hb => ?_⟩, rfl, fun _ _ => ⟨rfl, rfl⟩⟩
    · rw [hnew b hb]; simp
    · rw [hnew b hb]; exact h2.keeps.size
  have H2' := Lib.hid hat
  obtain ⟨q, hq⟩ : ∃ q, w2.heap.size = q := ⟨_, rfl⟩
  rw [hq] at H2'
  clear h2 CN hat
  go_wp2_with fail
  clear hq
  go_loopw [10] (fun iv wr => O1 w p q len0 len1 S0 S1 iv wr) (fun iv _ => 10 - (intOf iv).toNat)
  case atStart => exact H2'.out
  case round =>
    clear H2'
    obtain ⟨i, c, v, rfl, hi, e0, e1, hos⟩ := hrel
    by_cases hlt : i < 10
    · have hlt' : (i : Int) < 10 := by omega
      have HO := Lib.hid hos
      have HC := Lib.hid (⟨e0, e1⟩ : c 0 = min i len0 ∧ c 1 = min i len1)
      clear hos e0 e1 hi
      rcases Classical.em (i < len0) with h0 | h0
      case' inl =>
        obtain ⟨b0, off0, rfl, hcell, hsl, hbl⟩ := HS0.out i (by omega)
        replace hcell := cell_keeps hcell HO.out.keeps id
        have hb1 : (i : Int) < len0 := by omega
        have hbw : b0 < wr.heap.size := Nat.lt_of_lt_of_le hbl HO.out.keeps.size
        obtain ⟨m, hm⟩ : ∃ m, min (S0 i).length 60 = m := ⟨_, rfl⟩
        have hss : (mk (S0 i)).size = (S0 i).length := mk_size _
        have hx := cut_str 117 (S0 i) 60 m hm
        have hA : 117 :: (S0 i).take 60 = ordA S0 S1 0 (c 0) := by rw [HC.out.1, Nat.min_eq_left (by omega)]; rfl
        rw [hA] at hx
        obtain ⟨s, hs⟩ : ∃ s, mk (S0 i) = s := ⟨_, rfl⟩
        rw [hs] at hcell hss hx
        unfold maxLen at hsl
        have hmn : (if (60 : Int) < (s.size : Int) then (60 : Int) else s.size) = (m : Int) := by split <;> omega
        have hms : m ≤ s.size := by omega
        have hssz : s.size ≤ 9223372036854775807 := by omega
        have HX := Lib.hid hx
        obtain ⟨y0, y1, hv0⟩ := (HO.out.row (k := 0) (by decide)).val
        rw [List.length_map, List.length_map, List.length_range] at hv0
        have hc0 : wr.cell? ⟨q, 0, none⟩ = some (.slice y0 (c 0) y1) := by rw [cell_at HO.out.own, ← hv0]; rfl
        have hql := lt_at HO.out.own
        have hcl : c 0 ≤ 9 := by rw [HC.out.1]; omega
        have HV0 := Lib.hid hv0
        obtain ⟨n, hn⟩ : ∃ n, c 0 = n := ⟨_, rfl⟩
        rw [hn] at hc0 hcl
        have HN := Lib.hid hn
        clear hs hss hm hx hv0 hsl hA hn
        go_wp2_with fail
        go_quiet (fail)
        rw [HX.out]
        obtain ⟨V, hV⟩ : ∃ V, mk (ordA S0 S1 0 (c 0)) = V := ⟨_, rfl⟩
        rw [hV]
        have HV := Lib.hid hV
        have hVl : V.size ≤ 61 := by rw [← hV, mk_size]; exact (ordA_len _ _ _ _).2
        clear hV HX hmn
        go_wp2_with (at_builtin; refine wpList_app_row rfl _ _ 32 32 rfl 9 i9 (.string ByteArray.empty) 16 Tryd.underlying32 hi9 hy0 hy1 hy2 rfl _ (((List.range (c 0)).map (ordA S0 S1 0)).map sV) rfl (HN.out ▸ HV0.out ▸ (HO.out.step (((Keeps.refl (fun _ => False) wr).drewN _).alloc _)).row (k := 0) (by decide)) _ 1 [.string V] rfl ?cB (by rw [List.length_map, List.length_map, List.length_range, HN.out]; simp [maxLen]; omega) (by rw [List.length_map, List.length_map, List.length_range, HN.out]; omega) ?_)
        case cB => exact RowAt.src (e := 9) (xs := [.string V]) Tryd.underlying32 (.inr ⟨_, 0, 1, #[.string V], rfl, heap_alloc_new _ _, by simp, by simp [maxLen], by simp, by simp⟩) (fun u hu => by simp only [List.mem_singleton] at hu; subst hu; rfl)
        intro x w5 r5 k5 n5
        have hv : v 0 = .slice y0 n y1 := by rw [HV0.out, HN.out]
        rw [← hv] at k5 n5
        rw [← HV.out] at r5
        replace r5 : RowAt w5 9 x (((List.range (c 0)).map (ordA S0 S1 0)).map sV ++ [sV (ordA S0 S1 0 (c 0))]) := by rw [List.map_map]; exact r5
        have hW := HO.out.step (((Keeps.refl (fun _ => False) wr).drewN nq).alloc (.cells #[.string V] 9))
        have CP := os_push hW (k := 0) (by decide) k5 r5 (fun b hb => (n5 b hb).imp id fun h => by simpa using h) (by rw [HN.out]; exact hcl) (ordA_len _ _ _)
        rw [HV.out] at CP
        have own5 := (k5.block q (lt_at hW.own) (row_ne' (hW.row (k := 0) (by decide)) hW.own (by decide))).trans hW.own
        have f5 := free_at own5 0
        have l5 := lt_at own5
        have e5 : w5.cell? ⟨q, 0, none⟩ = some (v 0) := by rw [cell_at own5]; rfl
        obtain ⟨xa, xc, hxv⟩ := r5.val
        obtain ⟨xl, hxl⟩ : ∃ xl, (((List.range (c 0)).map (ordA S0 S1 0)).map sV ++ [sV (ordA S0 S1 0 (c 0))]).length = xl := ⟨_, rfl⟩
        rw [hxl] at hxv
        subst hxv
        replace CP := Lib.hid CP
        clear r5 k5 n5 hW own5 hv hxl hcell hc0
        go_wp2_with fail
        refine CP.out.mono ?_; rintro e w6 ⟨rfl, v6, h6⟩
        have HP : ∃ c' v', c' 0 = min (i + 1) len0 ∧ c' 1 = min i len1 ∧ Ost w p q (ordA S0 S1) c' v' w6 := ⟨upd c 0 (c 0 + 1), v6, by rw [upd_same, HC.out.1]; omega, by rw [upd_other _ _ (by decide), HC.out.2], h6⟩
        replace HP := Lib.hid HP
        clear h6 CP l5 e5 f5
        go_upto_region 16 with fail
      case' inr =>
        have h0' : ¬ (i : Int) < len0 := by omega
        have HP := Lib.hid (show ∃ c' v', c' 0 = min (i + 1) len0 ∧ c' 1 = min i len1 ∧ Ost w p q (ordA S0 S1) c' v' wr from ⟨c, v, by rw [HC.out.1]; omega, HC.out.2, HO.out⟩)
        obtain ⟨w6, hw6⟩ : ∃ x, wr = x := ⟨_, rfl⟩
        rw [hw6] at HP ⊢
        clear hw6
        go_upto_region 16 with fail
      all_goals
        obtain ⟨c, v, d0, d1, ho6⟩ := HP.out
        have HO6 := Lib.hid ho6
        have HC6 := Lib.hid (⟨d0, d1⟩ : c 0 = min (i + 1) len0 ∧ c 1 = min i len1)
        clear d0 d1 ho6 HP HO HC
        rcases Classical.em (i < len1) with h1 | h1
        case' inl =>
            obtain ⟨b1, off1, rfl, hcell, hsl, hbl⟩ := HS1.out i (by omega)
            replace hcell := cell_keeps hcell HO6.out.keeps id
            have hb1 : (i : Int) < len1 := by omega
            have hbw : b1 < w6.heap.size := Nat.lt_of_lt_of_le hbl HO6.out.keeps.size
            obtain ⟨m, hm⟩ : ∃ m, min (S1 i).length 60 = m := ⟨_, rfl⟩
            have hss : (mk (S1 i)).size = (S1 i).length := mk_size _
            have hx := cut_str 100 (S1 i) 60 m hm
            have hA : 100 :: (S1 i).take 60 = ordA S0 S1 1 (c 1) := by rw [HC6.out.2, Nat.min_eq_left (by omega)]; rfl
            rw [hA] at hx
            obtain ⟨s, hs⟩ : ∃ s, mk (S1 i) = s := ⟨_, rfl⟩
            rw [hs] at hcell hss hx
            unfold maxLen at hsl
            have hmn : (if (60 : Int) < (s.size : Int) then (60 : Int) else s.size) = (m : Int) := by split <;> omega
            have hms : m ≤ s.size := by omega
            have hssz : s.size ≤ 9223372036854775807 := by omega
            have HX := Lib.hid hx
            obtain ⟨y0, y1, hv0⟩ := (HO6.out.row (k := 1) (by decide)).val
            rw [List.length_map, List.length_map, List.length_range] at hv0
            have hc0 : w6.cell? ⟨q, 1, none⟩ = some (.slice y0 (c 1) y1) := by rw [cell_at HO6.out.own, ← hv0]; rfl
            have hql := lt_at HO6.out.own
            have hcl : c 1 ≤ 9 := by rw [HC6.out.2]; omega
            have HV0 := Lib.hid hv0
            obtain ⟨n, hn⟩ : ∃ n, c 1 = n := ⟨_, rfl⟩
            rw [hn] at hc0 hcl
            have HN := Lib.hid hn
            clear hs hss hm hx hv0 hsl hA hn
            go_wp2_with fail
            go_quiet (fail)
            rw [HX.out]
            obtain ⟨V, hV⟩ : ∃ V, mk (ordA S0 S1 1 (c 1)) = V := ⟨_, rfl⟩
            rw [hV]
            have HV := Lib.hid hV
            have hVl : V.size ≤ 61 := by rw [← hV, mk_size]; exact (ordA_len _ _ _ _).2
            clear hV HX hmn
            go_wp2_with (at_builtin; refine wpList_app_row rfl _ _ 32 32 rfl 9 i9 (.string ByteArray.empty) 16 Tryd.underlying32 hi9 hy0 hy1 hy2 rfl _ (((List.range (c 1)).map (ordA S0 S1 1)).map sV) rfl (HN.out ▸ HV0.out ▸ (HO6.out.step (((Keeps.refl (fun _ => False) w6).drewN _).alloc _)).row (k := 1) (by decide)) _ 1 [.string V] rfl ?cB (by rw [List.length_map, List.length_map, List.length_range, HN.out]; simp [maxLen]; omega) (by rw [List.length_map, List.length_map, List.length_range, HN.out]; omega) ?_)
            case cB => exact RowAt.src (e := 9) (xs := [.string V]) Tryd.underlying32 (.inr ⟨_, 0, 1, #[.string V], rfl, heap_alloc_new _ _, by simp, by simp [maxLen], by simp, by simp⟩) (fun u hu => by simp only [List.mem_singleton] at hu; subst hu; rfl)
            intro x w5 r5 k5 n5
            have hv : v 1 = .slice y0 n y1 := by rw [HV0.out, HN.out]
            rw [← hv] at k5 n5
            rw [← HV.out] at r5
            replace r5 : RowAt w5 9 x (((List.range (c 1)).map (ordA S0 S1 1)).map sV ++ [sV (ordA S0 S1 1 (c 1))]) := by rw [List.map_map]; exact r5
            have hW := HO6.out.step (((Keeps.refl (fun _ => False) w6).drewN nq).alloc (.cells #[.string V] 9))
            have CP := os_push hW (k := 1) (by decide) k5 r5 (fun b hb => (n5 b hb).imp id fun h => by simpa using h) (by rw [HN.out]; exact hcl) (ordA_len _ _ _)
            rw [HV.out] at CP
            have own5 := (k5.block q (lt_at hW.own) (row_ne' (hW.row (k := 1) (by decide)) hW.own (by decide))).trans hW.own
            have f5 := free_at own5 1
            have l5 := lt_at own5
            have e5 : w5.cell? ⟨q, 1, none⟩ = some (v 1) := by rw [cell_at own5]; rfl
            obtain ⟨xa, xc, hxv⟩ := r5.val
            obtain ⟨xl, hxl⟩ : ∃ xl, (((List.range (c 1)).map (ordA S0 S1 1)).map sV ++ [sV (ordA S0 S1 1 (c 1))]).length = xl := ⟨_, rfl⟩
            rw [hxl] at hxv
            subst hxv
            replace CP := Lib.hid CP
            clear r5 k5 n5 hW own5 hv hxl hcell hc0
            go_wp2_with fail
            refine CP.out.mono ?_; rintro e w8 ⟨rfl, v8, h8⟩
            have HP2 : ∃ c' v', c' 0 = min (i + 1) len0 ∧ c' 1 = min (i + 1) len1 ∧ Ost w p q (ordA S0 S1) c' v' w8 := ⟨upd c 1 (c 1 + 1), v8, by rw [upd_other _ _ (by decide), HC6.out.1], by rw [upd_same, HC6.out.2]; omega, h8⟩
            replace HP2 := Lib.hid HP2
            clear h8 CP l5 e5 f5
        case' inr =>
            have h1' : ¬ (i : Int) < len1 := by omega
            have HP2 := Lib.hid (show ∃ c' v', c' 0 = min (i + 1) len0 ∧ c' 1 = min (i + 1) len1 ∧ Ost w p q (ordA S0 S1) c' v' w6 from ⟨c, v, HC6.out.1, by rw [HC6.out.2]; omega, HO6.out⟩)
        all_goals
          obtain ⟨c', v', f0, f1, ho8⟩ := HP2.out
          have HO8 := Lib.hid (show O1 w p q len0 len1 S0 S1 (.int .i64 (i + 1 : Nat)) _ from ⟨i + 1, c', v', rfl, by omega, f0, f1, ho8⟩)
          clear f0 f1 ho8 HP2 HO6 HC6
          go_wp2_with fail
          go_roundw
          case rel => exact HO8.out
          case measure => simp [intOf]; omega
    · have hlt' : ¬ (i : Int) < 10 := by omega
      have hg := og_start hos (fun k hk => by
        obtain rfl | rfl : k = 0 ∨ k = 1 := by omega
        · rw [e0]; omega
        · rw [e1]; omega) (ordA_len S0 S1)
      obtain ⟨sent, hsent⟩ : ∃ sent, (fun k => (List.range (c k)).map (ordA S0 S1 k)) = sent := ⟨_, rfl⟩
      rw [hsent] at hg
      have HG2 := Lib.hid (show O2 w wr p q wr.heap.size v sent (.int .i64 0) (wr.alloc (.cells #[.slice none 0 0, .slice none 0 0] 51)) from ⟨0, _, rfl, hg⟩)
      obtain ⟨r, hr⟩ : ∃ r, wr.heap.size = r := ⟨_, rfl⟩
      rw [hr] at HG2
      clear hos e0 e1 hg hsent hlt hi
      go_wp2_with fail
      clear hr
      go_loopw [14] (fun iv wz => O2 w wr p q r v sent iv wz) (fun iv _ => 62 - (intOf iv).toNat)
      case atStart => exact HG2.out
      case round =>
        clear HG2
        obtain ⟨i, vg, rfl, hog⟩ := hrel
        obtain ⟨L0, L1, l1, l2, l3, C0, C1⟩ := og_waits hog
        replace C0 := Lib.hid C0
        replace C1 := Lib.hid C1
        have HO := Lib.hid hog
        have hil := hog.le
        have hkw := Lib.hid hog.keeps
        clear hog
        by_cases hpos : L0 + L1 = 0
        · have HE := Lib.hid (l3 hpos)
          obtain rfl : L0 = 0 := by omega
          obtain rfl : L1 = 0 := by omega
          clear l1 l2 l3 hpos HO
          go_wp2_with fail
          refine C0.out.mono ?_; rintro e w4 ⟨rfl, rfl⟩
          go_wp2_with fail
          refine C1.out.mono ?_; rintro e w4 ⟨rfl, rfl⟩
          go_wp2_with fail
          obtain ⟨w9, hw9⟩ : ∃ x : World, x = wr := ⟨_, rfl⟩
          rw [← hw9] at HE ⊢
          clear hw9
          go_loopw [18] (fun iv wx => ∃ j : Nat, iv = .int .i64 j ∧ j ≤ 2 ∧ Keeps (fun _ => False) w9 wx) (fun iv _ => 2 - (intOf iv).toNat)
          case atStart => exact ⟨0, rfl, by omega, Keeps.refl _ _⟩
          case round =>
            obtain ⟨j, rfl, hj, hkx⟩ := hrel
            obtain ⟨sE, x1, x2, x3, x4, x5⟩ := HE.out
            have y1 := Lib.hid (x1.step hkx)
            have X2 := Lib.hid x2
            have X3 := Lib.hid x3
            have X5 := Lib.hid x5
            have X4 := Lib.hid x4
            have HKX := Lib.hid hkx
            clear x1 x2 x3 x4 x5 hkx
            by_cases hj2 : j < 2
            · have hlen := X5.out j hj2
              have r2 := X2.out.row j hj2
              have r3 := X3.out.row j hj2
              have c2 := X2.out.cell hj2
              have c3 := X3.out.cell hj2
              have l2 := lt_at X2.out.own
              have l3 := lt_at X3.out.own
              obtain ⟨xs, hxs⟩ : ∃ xs, sent j = xs := ⟨_, rfl⟩
              rw [hxs] at hlen r2 r3
              obtain ⟨n, hn⟩ : ∃ n, xs.length = n := ⟨_, rfl⟩
              rw [hn] at hlen
              obtain ⟨a5, d5, e5⟩ := r2.val
              obtain ⟨a6, d6, e6⟩ := r3.val
              rw [List.length_map, hn] at e5 e6
              rw [e5] at c2 r2
              rw [e6] at c3 r3
              have R2 := Lib.hid r2
              have R3 := Lib.hid r3
              have C2 := Lib.hid c2
              have C3 := Lib.hid c3
              replace c2 := cell_keeps c2 HKX.out id
              replace c3 := cell_keeps c3 HKX.out id
              have m2 := Nat.lt_of_lt_of_le l2 HKX.out.size
              have m3 := Nat.lt_of_lt_of_le l3 HKX.out.size
              have HN := Lib.hid hn
              clear r2 r3 hxs hn e5 e6 y1 X2 X3 X4 X5 hj
              have hj2' : j = 0 ∨ j = 1 := by omega
              rcases hj2' with rfl | rfl
              all_goals
                clear hj2
                go_wp2_with fail
                go_quiet (fail)
                go_wp2_with fail
                go_loopw [19] (fun iv wx => ∃ i : Nat, iv = .int .i64 i ∧ i ≤ n ∧ Keeps (fun _ => False) w9 wx) (fun iv _ => n - (intOf iv).toNat)
                case atStart => exact ⟨0, rfl, by omega, HKX.out.drewN _⟩
                case round =>
                  clear c2 c3 m2 m3
                  obtain ⟨i, rfl, hi, hkz⟩ := hrel
                  have c2 := cell_keeps C2.out hkz id
                  have c3 := cell_keeps C3.out hkz id
                  have m2 := Nat.lt_of_lt_of_le l2 hkz.size
                  have m3 := Nat.lt_of_lt_of_le l3 hkz.size
                  have HKZ := Lib.hid hkz
                  by_cases hlt : i < n
                  · obtain ⟨b1, o1, q1, f1, _, _, hc1⟩ := (R2.out.keeps hkz fun _ _ => id).cells (by rw [List.length_map, HN.out]; omega)
                    obtain ⟨b2, o2, q2, f2, _, _, hc2⟩ := (R3.out.keeps hkz fun _ _ => id).cells (by rw [List.length_map, HN.out]; omega)
                    simp only [Value.slice.injEq] at f1 f2
                    obtain ⟨rfl, -, rfl⟩ := f1
                    obtain ⟨rfl, -, rfl⟩ := f2
                    have g1 := hc1 i (by rw [List.length_map, HN.out]; exact hlt)
                    have g2 := hc2 i (by rw [List.length_map, HN.out]; exact hlt)
                    rw [List.getElem_map] at g1 g2
                    obtain ⟨y, hy⟩ : ∃ y, xs[i]'(by rw [HN.out]; exact hlt) = y := ⟨_, rfl⟩
                    rw [hy] at g1 g2
                    unfold sV at g1 g2
                    have hlt' : (i : Int) < n := by omega
                    clear hy hc1 hc2 hkz
                    go_wp2_with fail
                    go_quiet (fail)
                    go_wp2_with fail
                    go_roundw
                    case rel => exact ⟨i + 1, by go_num, by omega, HKZ.out.drewN _⟩
                    case measure => simp [intOf]; omega
                  · have hlt' : ¬ (i : Int) < n := by omega
                    clear hkz
                    go_wp2_with fail
                    go_roundw
                    case rel => first | exact ⟨1, rfl, by omega, HKZ.out⟩ | exact ⟨2, rfl, by omega, HKZ.out⟩
                    case measure => simp [intOf]
            · obtain rfl : j = 2 := by omega
              have CE := ll_epoch y1.out
              rw [X4.out] at CE
              replace CE := Lib.hid CE
              have HK := Lib.hid y1.out.keeps
              clear y1
              go_wp2_with fail
              refine CE.out.mono ?_; rintro e w5 ⟨rfl, rfl⟩
              go_wp2_with fail
              go_ret
              exact ⟨rfl, HK.out⟩
        · have hi61 : i ≤ 61 := l2 (by omega)
          have hp1 : 0 < (L0 : Int) + L1 := by omega
          have hpar : ∃ k : Nat, k < 2 ∧ i % 2 = k ∧ ((k = 0 ∧ (i : Int).tmod 2 = 0) ∨ (k = 1 ∧ (i : Int).tmod 2 = 1)) := by
            rw [Int.tmod_eq_emod_of_nonneg (by omega)]
            exact ⟨i % 2, by omega, rfl, by omega⟩
          obtain ⟨k, hk, hik, hpar⟩ := hpar
          have HT := Lib.hid fun (n : Int) (hn : 0 ≤ n) (hn2 : 60 ≤ i → n = 2000) => og_take HG.out HO.out hk hik hi61 hn hn2
          clear l2 l3 hpos HO hik
          rcases hpar with ⟨rfl, hpar⟩ | ⟨rfl, hpar⟩
          all_goals
            have hcase : (i < len2 ∧ i < 60) ∨ (¬ (i : Int) < len2 ∨ ((i : Int) < len2 ∧ ¬ (i : Int) < 60)) := by omega
            rcases hcase with ⟨hc1, hc2⟩ | hcase
            case' inl =>
              obtain ⟨b, off, rfl, hcell, hz, hbl⟩ := HZ.out i hc1
              replace hcell := cell_keeps hcell hkw.out id
              have hbw := Nat.lt_of_lt_of_le hbl hkw.out.size
              have h1 : (i : Int) < len2 := by omega
              have h2 : (i : Int) < 60 := by omega
              obtain ⟨z0, hz0⟩ : ∃ z0, z i = z0 := ⟨_, rfl⟩
              rw [hz0] at hcell hz
              obtain ⟨z1, hz1⟩ : ∃ z1, z0 % 50 = z1 := ⟨_, rfl⟩
              have hz2 : z0.tmod 50 = z1 := by rw [Int.tmod_eq_emod_of_nonneg hz.1, hz1]
              have hz3 : 0 ≤ z1 ∧ z1 ≤ 49 := by omega
              have CT := Lib.hid (HT.out z1 hz3.1 (by omega))
              clear hz0 hz1 HT
            case' inr =>
              have CT := Lib.hid (HT.out 2000 (by omega) fun _ => rfl)
              clear HT
              rcases hcase with hcase | ⟨hcase, hcase2⟩
            all_goals
              go_wp2_with fail
              refine C0.out.mono ?_; rintro e w4 ⟨rfl, rfl⟩
              go_wp2_with fail
              refine C1.out.mono ?_; rintro e w4 ⟨rfl, rfl⟩
              clear C0 C1
              go_wp2_with fail
              refine CT.out.mono ?_; rintro e w4 ⟨ov, T, G, rfl, ho, hgr, hT, hGl, hown, hfin⟩
              obtain ⟨oa, oc, rfl⟩ := ho.val
              obtain ⟨ga, gc, hgv⟩ := hgr.val
              rw [List.length_map] at ho hgv ⊢
              first
                | have e4 : w4.cell? ⟨r, 0, none⟩ = some (.slice ga G.length gc) := by rw [cell_at hown, ← hgv]; rfl
                | have e4 : w4.cell? ⟨r, 1, none⟩ = some (.slice ga G.length gc) := by rw [cell_at hown, ← hgv]; rfl
              have l4 := lt_at hown
              have HFin := Lib.hid hfin
              have HGr0 := Lib.hid hgr
              have HGr := Lib.hid (hgv ▸ hgr)
              have hsrc := RowAt.src (P := Tryd.prog) Tryd.underlying32 ho sV_one
              rw [List.length_map] at hsrc
              have HSrc := Lib.hid hsrc
              have HGv := Lib.hid hgv
              have HOwn := Lib.hid hown
              clear hfin hgr ho hsrc hgv hown CT
              go_wp2_with (at_builtin; refine wpList_app_row rfl _ _ 32 32 rfl 9 i9 (.string ByteArray.empty) 16 Tryd.underlying32 hi9 hy0 hy1 hy2 rfl _ (G.map sV) rfl HGr.out _ T.length (T.map sV) rfl HSrc.out (by rw [List.length_map]; simp [maxLen]; omega) (by rw [List.length_map]; omega) ?_)
              intro nv w5 r5 k5 n5
              rw [← HGv.out] at k5 n5
              have HF := Lib.hid (HFin.out nv w5 r5 k5 n5)
              have own5 := (k5.block r (lt_at HOwn.out) (row_ne' HGr0.out HOwn.out (by decide))).trans HOwn.out
              have e5 := fun (o : Nat) (u : Value) (h : (#[vg 0, vg 1] : Array Value)[o]? = some u) => (cell_at own5 o).trans h
              have e50 := e5 0 _ rfl
              have e51 := e5 1 _ rfl
              have f5 := fun o => free_at own5 o
              have l5 := lt_at own5
              obtain ⟨xa, xc, hxv⟩ := r5.val
              obtain ⟨xl, hxl⟩ : ∃ xl, (G.map sV ++ T.map sV).length = xl := ⟨_, rfl⟩
              rw [hxl] at hxv
              subst hxv
              clear r5 k5 n5 own5 e5 e4 hxl HFin HGr0 HGr HSrc
              go_wp2_with fail
              go_roundw
              case rel => exact ⟨i + 1, _, rfl, HF.out⟩
              case measure => simp [intOf]; omega
end Go.Proofs.YtfijpnhnlpgkgaaDoor
