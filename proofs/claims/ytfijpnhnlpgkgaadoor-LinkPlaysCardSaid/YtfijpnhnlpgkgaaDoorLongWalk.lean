/-
  FrameLong walked: it returns true at every pair of numbers.
  Conditions: the variables errShort and errors.errorType hold what the text lays.
-/
import Derived.Test.YtfijpnhnlpgkgaaDoorState
import Derived.Deep.DeepCutAuto
import Derived.Deep.CutBlock
namespace Go.Proofs.YtfijpnhnlpgkgaaDoor
open Go.RowKit
/-- of one message, not all -/
theorem parse_part (m : Bs) (k : Nat) (h0 : 1 ≤ m.length) (h1 : m.length ≤ 65536) (hk : k < 4 + m.length) : parse ((frm m).take k) = ([], (frm m).take k, 0) := by
  have hl : ((frm m).take k).length = k := by rw [List.length_take, frm_length]; omega
  by_cases h : k < 4
  · exact parse_short (by omega)
  · have hb : be4 ((frm m).take k) = m.length := by
      have e1 : be4 (frm m) = m.length := be4_head _ _ (by omega)
      have e2 := be4_append ((frm m).drop k) (l := (frm m).take k) (by omega)
      rw [List.take_append_drop] at e2
      rw [← e2, e1]
    exact parse_wait (by omega) (by omega) (by omega) (by omega)
theorem parse_whole (m : Bs) (k : Nat) (h0 : 1 ≤ m.length) (h1 : m.length ≤ 65536) : parse ((frm m).take k ++ (frm m).drop k) = ([m], [], 0) := by
  rw [List.take_append_drop]
  have := parse_frm m [] h0 h1
  rw [List.append_nil, parse_short (l := []) (by decide)] at this
  exact this
def zeros (n : Nat) : Bs := List.replicate n 0
theorem zeros_len (n : Nat) : (zeros n).length = n := List.length_replicate
def big : Nat := 65537
set_option maxRecDepth 100000 in
set_option maxHeartbeats 4000000 in
theorem long_any (a c : Int) (w : World) (g : Glob w) (ha : 0 ≤ a ∧ a ≤ 255) (hc : 0 ≤ c ∧ c ≤ 65535) :
    Calls Tryd.prog 7 #[.int .u8 a, .int .u16 c] w fun e w' => e = .returned (.bool true) ∧ Keeps (fun _ => False) w w' := by
  obtain ⟨i5, hi5, hx0, hx1, hx2⟩ := info_parts Tryd.info5
  have CE := Lib.hid (examples_any w g)
  have HG := Lib.hid g
  obtain ⟨z, hz⟩ : ∃ z, a % 10 = z := ⟨_, rfl⟩
  have hz1 : 0 ≤ z ∧ z ≤ 9 := by omega
  have hz2 : a.tmod 10 = z := by rw [Int.tmod_eq_emod_of_nonneg ha.1, hz]
  obtain ⟨L, hL⟩ : ∃ L : Nat, (65536 : Int) - z = L := ⟨(65536 - z).toNat, by omega⟩
  have hL1 : 65527 ≤ L ∧ L ≤ 65536 := by omega
  clear g hz
  go_enter Tryd.func7, Tryd.ntmps7
  go_wp2_with fail
  refine CE.out.mono ?_; rintro e w1 ⟨rfl, k1⟩
  have K1 := Lib.hid k1
  clear k1 CE
  go_wp2_with (refine wpList_make_full _ rfl (.tmp 24) (.tmp 24) 41 rfl w1.heap.size 5 i5 (.int .u8 0) 1 Tryd.underlying41 hi5 hx0 hx1 .i64 .i64 (L : Int) (L : Int) L rfl rfl rfl rfl ?b2 ?b3 (Nat.le_refl _) ?_)
  case b2 => rw [hx2]; omega
  case b3 => simp [maxLen]; omega
  intro w2 r2 g2
  have hrow := row_of_owns r2
  rw [made_zero] at hrow
  have hconv0 := hrow.conv
  have K2 := Lib.hid (K1.out.grown g2 nofun)
  have hsz := mk_size (zeros L)
  rw [zeros_len] at hsz
  have CP := Lib.hid (fun W => pack_ok (zeros L) W (by rw [zeros_len]; omega) (by rw [zeros_len]; omega))
  have hpz : (mk (frm (zeros L))).size = L + 4 := by rw [mk_size, frm_length, zeros_len]; omega
  have hfx := fun k => mk_extract (frm (zeros L)) 0 k
  have hfy := fun k => mk_extract (frm (zeros L)) k (L + 4)
  obtain ⟨S, hS⟩ : ∃ S, mk (zeros L) = S := ⟨_, rfl⟩
  obtain ⟨P, hP⟩ : ∃ P, mk (frm (zeros L)) = P := ⟨_, rfl⟩
  have hconv : (convert 41 9 (.slice (some ⟨w1.heap.size, 0, none⟩) L L)).run Tryd.prog w2 = .ok (.string S) w2 := by rw [← hS]; exact hconv0
  rw [hS] at hsz CP
  rw [hP] at hpz CP hfx hfy
  have HSZ := Lib.hid hsz
  have HPZ := Lib.hid hpz
  have HFX := Lib.hid hfx
  have HFY := Lib.hid hfy
  have HS := Lib.hid hS
  clear r2 g2 hrow hconv0 hsz hpz hfx hfy hS hP
  go_wp2_with fail
  refine (CP.out _).mono ?_; rintro e w3 ⟨rfl, k3⟩
  have K3 := Lib.hid (K2.out.trans k3)
  clear k3 CP hconv
  go_upto_region 6 with fail
  go_wp2_with (refine wpList_make_full _ rfl (.const (.int .i64 65537)) (.const (.int .i64 65537)) 41 rfl w3.heap.size 5 i5 (.int .u8 0) 1 Tryd.underlying41 hi5 hx0 hx1 .i64 .i64 (big : Int) (big : Int) big rfl rfl rfl rfl ?b2 ?b3 (Nat.le_refl _) ?_)
  case b2 => rw [hx2]; unfold big; omega
  case b3 => unfold big; simp [maxLen]
  intro w4 r4 g4
  have hrow4 := row_of_owns r4
  rw [made_zero] at hrow4
  have hconv0 := hrow4.conv
  have K4 := Lib.hid (K3.out.grown g4 nofun)
  have CQ := Lib.hid (fun W => pack_no (zeros big) W (.inr (by rw [zeros_len]; unfold big; omega)) (by rw [zeros_len]; unfold big; simp [maxLen]))
  obtain ⟨Z, hZ⟩ : ∃ Z, mk (zeros big) = Z := ⟨_, rfl⟩
  have hconv4 : (convert 41 9 (.slice (some ⟨w3.heap.size, 0, none⟩) big big)).run Tryd.prog w4 = .ok (.string Z) w4 := by rw [← hZ]; exact hconv0
  rw [hZ] at CQ
  have CN := Lib.hid (rl_new (w := w) (W := w4) (H := fun _ => False) K4.out fun _ => False.elim)
  clear hrow4 hconv0 hZ r4 g4
  go_wp2_with fail
  refine (CQ.out _).mono ?_; rintro e w5 ⟨rfl, rfl⟩
  clear hconv4 CQ
  have hsz := HSZ.out
  have hpz := HPZ.out
  obtain ⟨k, hk⟩ : ∃ k : Nat, c % ((L : Int) + 4) = k := ⟨(c % ((L : Int) + 4)).toNat, by have := Int.emod_nonneg c (show (L : Int) + 4 ≠ 0 by omega); omega⟩
  have hkl : k < L + 4 := by have := Int.emod_lt_of_pos c (show (0 : Int) < (L : Int) + 4 by omega); omega
  have hk1 : (k : Int) ≤ (L : Int) + 4 := by omega
  have hp1 := parse_part (zeros L) k (by rw [zeros_len]; omega) (by rw [zeros_len]; omega) (by rw [zeros_len]; omega)
  have hp2 := parse_whole (zeros L) k (by rw [zeros_len]; omega) (by rw [zeros_len]; omega)
  have hcl : ((frm (zeros L)).take k).length = k := by rw [List.length_take, frm_length, zeros_len]; omega
  have hdl : ((frm (zeros L)).drop k).length = L + 4 - k := by rw [List.length_drop, frm_length, zeros_len]; omega
  have hx : P.extract 0 k = mk ((frm (zeros L)).take k) := by rw [HFX.out]; rfl
  have hy : P.extract k (L + 4) = mk ((frm (zeros L)).drop k) := by rw [HFY.out, List.take_of_length_le (by omega)]
  have HX := Lib.hid hx
  have HY := Lib.hid hy
  have HP1 := Lib.hid hp1
  have HP2 := Lib.hid hp2
  have HCL := Lib.hid hcl
  have HDL := Lib.hid hdl
  clear hp1 hp2 hcl hdl hx hy HFX HFY
  go_wp2_with fail
  refine CN.out.mono ?_; rintro e w6 ⟨rfl, hrl, _⟩
  obtain ⟨r, hr⟩ : ∃ r, w4.heap.size = r := ⟨_, rfl⟩
  rw [hr] at hrl ⊢
  have C1 := rl_feed HG.out hrl ((frm (zeros L)).take k) (by rw [List.length_nil, HCL.out]; omega) (by rw [List.nil_append, HP1.out]; simp)
  unfold RlOut at C1
  rw [List.nil_append, HP1.out] at C1
  have C1 := Lib.hid C1
  clear hr hrl CN
  go_wp2_with fail
  rw [HX.out]
  refine C1.out.mono ?_; rintro e w7 ⟨ov, rfl, ho, hof, hrl7, hk7⟩
  obtain ⟨oa, oc, rfl⟩ := ho.val
  have CL := Lib.hid (rl_left hrl7)
  have C2 := rl_feed HG.out hrl7 ((frm (zeros L)).drop k) (by rw [HCL.out, HDL.out]; omega) (by rw [HP2.out]; simp)
  unfold RlOut at C2
  rw [HP2.out] at C2
  have C2 := Lib.hid C2
  have HCL2 := HCL.out
  rw [HCL2] at CL
  clear hof hrl7 hk7 ho C1 HCL2
  go_wp2_with fail
  refine CL.out.mono ?_; rintro e w8 ⟨rfl, rfl⟩
  clear CL
  go_wp2_with fail
  rw [HY.out]
  refine C2.out.mono ?_; rintro e w9 ⟨ov2, rfl, ho2, hof2, hrl9, hk9⟩
  obtain ⟨b1, o1, c1, rfl, _, _, hcc⟩ := ho2.cells (by simp)
  have hc0 : w9.cell? ⟨b1, o1, none⟩ = some (.string S) := by rw [← HS.out]; exact hcc 0 (by simp)
  have CL := Lib.hid (rl_left hrl9)
  have HE := Lib.hid hrl9.keeps
  clear hof2 hrl9 hk9 ho2 hcc C2
  simp only [List.length_map, List.length_singleton, List.length_nil] at CL ⊢
  go_wp2_with (first | (go_at_call 20; refine CL.out.mono ?_; rintro e w10 ⟨rfl, rfl⟩))
  go_ret
  exact ⟨rfl, HE.out⟩
end Go.Proofs.YtfijpnhnlpgkgaaDoor
