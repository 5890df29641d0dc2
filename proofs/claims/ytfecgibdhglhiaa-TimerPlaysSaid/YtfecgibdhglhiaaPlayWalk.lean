/-
  TimerPlays walked over a slice of deeds that is not empty: the program and the document answer alike, deed by deed.
  Conditions: the cells of the deeds are there.
-/
import Derived.Test.YtfecgibdhglhiaaPlayPlain
import Derived.Deep.RegionHeld3
import Derived.Deep.DeepCutAuto
import Derived.Deep.QuietTactic
import Derived.BigQuiet
import Derived.Deep.CutBlock
namespace Go.Proofs.Ytfecgibdhglhiaa
open Go.RowKit
def PlayAt (w : World) (p r len : Nat) (iv : Value) (wr : World) : Prop :=
  ∃ (i j : Nat) (L : List IA), iv = .int .i64 i ∧ i ≤ len ∧ i ≤ 80 ∧ j ≤ i ∧ L.length ≤ i ∧ Uniq L ∧ PT w (fun _ => False) p r L L j wr
set_option maxRecDepth 100000 in
set_option maxHeartbeats 4000000 in
theorem plays_some (b off len c : Nat) (kd di ta : Nat → Int) (ds : Nat → ByteArray) (w : World) (h0 : 0 < len) (hb : b < w.heap.size)
    (hcell : ∀ i, i < len → w.cell? ⟨b, off + i * 4, none⟩ = some (.int .u8 (kd i)) ∧ w.cell? ⟨b, off + i * 4 + 1, none⟩ = some (.int .u8 (di i)) ∧ w.cell? ⟨b, off + i * 4 + 2, none⟩ = some (.string (ds i)) ∧ w.cell? ⟨b, off + i * 4 + 3, none⟩ = some (.int .u64 (ta i)))
    (hk : ∀ i, 0 ≤ kd i ∧ kd i ≤ 255) (hd : ∀ i, 0 ≤ di i ∧ di i ≤ 255) :
    Calls Try.prog 4 #[.slice (some ⟨b, off, none⟩) len c] w fun e w' => e = .returned (.bool true) ∧ Keeps (fun _ => False) w w' := by
  have HC := Lib.hid hcell
  have HKD := Lib.hid hk
  have HDI := Lib.hid hd
  clear hcell hk hd
  go_enter Try.func4, Try.ntmps4
  go_wp2_with fail
  refine (examples_any w).mono ?_; rintro e w1 ⟨rfl, k1⟩
  have C0 := Lib.hid (newL w1)
  have K1 := Lib.hid k1
  clear k1
  go_wp2_with fail
  refine C0.out.mono ?_; rintro e w2 ⟨p, F0, rfl, h0', f0, k0⟩
  have hpt : PT w (fun _ => False) p w2.heap.size [] [] 0 (w2.alloc (.cells #[.slice none 0 0] 38)) := by
    refine ⟨F0, .slice none 0 0, h0'.keeps (G := fun _ => False) ((Keeps.refl _ _).alloc _) fun _ _ => id, ⟨heap_alloc_new _ _, RowN.nil _ _ _, nofun⟩, Nat.le_trans K1.out.size k0.size, nofun, fun b hb => ⟨Nat.le_trans K1.out.size (f0 b hb), fun e => by have := h0'.lt hb; omega, nofun, id⟩, fun _ h => h.elim, (K1.out.trans k0).alloc _⟩
  have HPT := Lib.hid hpt
  clear hpt h0' f0 k0 K1 C0
  go_wp2_with fail
  go_loopw [6] (fun iv wr => PlayAt w p w2.heap.size len iv wr) (fun iv _ => len - (intOf iv).toNat)
  case atStart => exact ⟨0, 0, [], rfl, by omega, by omega, by omega, by simp, List.nodup_nil, HPT.out⟩
  case round =>
    clear HPT
    obtain ⟨i, j, L, rfl, hil, hi80, hji, hLi, hu, hpt⟩ := hrel
    by_cases hi : i < len ∧ i < 80
    · obtain ⟨hi1, hi2⟩ := hi
      obtain ⟨c0, c1, c2, c3⟩ := HC.out i hi1
      have hx : ∀ o v, w.cell? ⟨b, o, none⟩ = some v → wr.cell? ⟨b, o, none⟩ = some v := fun o v h => by
        have hbw := hpt.keeps.block b hb id
        rw [← h]; unfold World.cell?; rw [hbw]
      have c0 := hx _ _ c0
      have c1 := hx _ _ c1
      have c2 := hx _ _ c2
      have c3 := hx _ _ c3
      have hi1' : (i : Int) < len := by omega
      have hi2' : (i : Int) < 80 := by omega
      have hbw : b < wr.heap.size := Nat.lt_of_lt_of_le hb hpt.keeps.size
      have HP := Lib.hid hpt
      have HU := Lib.hid hu
      clear hpt hu hx HC
      obtain ⟨t, ht⟩ : ∃ t, kd i % 6 = t := ⟨_, rfl⟩
      have hkd := HKD.out i
      have ht6 : 0 ≤ t ∧ t ≤ 5 := by omega
      have hdi := HDI.out i
      have y1 : (kd i).tmod 6 = t := by rw [Int.tmod_eq_emod_of_nonneg hkd.1, ht]
      obtain ⟨d0, hd0⟩ : ∃ d0, di i = d0 := ⟨_, rfl⟩
      obtain ⟨s0, hs0⟩ : ∃ s0, ds i = s0 := ⟨_, rfl⟩
      obtain ⟨t0, ht0⟩ : ∃ t0, ta i = t0 := ⟨_, rfl⟩
      obtain ⟨k0, hk0⟩ : ∃ k0, kd i = k0 := ⟨_, rfl⟩
      simp only [hd0, hs0, ht0, hk0] at hdi y1 c0 c1 c2 c3 ⊢
      clear hd0 hs0 ht0 hk0 ht hkd
      go_upto_block 2 with fail
      obtain ⟨db, hdb⟩ : ∃ db, wr.heap.size = db := ⟨_, rfl⟩
      have HP0 := HP.out
      have HPH := Lib.hid (HP.out.hold (H' := fun x => x = db) ((Keeps.refl _ _).alloc (.cells #[Value.int IntKind.u8 k0, Value.int IntKind.u8 d0, Value.string s0, Value.int IntKind.u64 t0] 40)) (fun x hx => .inr ⟨by omega, by simp; omega⟩))
      clear HP0 HP
      obtain ⟨W, hW⟩ : ∃ W, wr.alloc (Obj.cells #[Value.int IntKind.u8 k0, Value.int IntKind.u8 d0, Value.string s0, Value.int IntKind.u64 t0] 40) = W := ⟨_, rfl⟩
      have hD : PD w db ⟨k0, d0, t0, s0⟩ p w2.heap.size L L j W := by
        rw [← hW]
        exact ⟨HPH.out, by rw [← hdb]; exact heap_alloc_new _ _⟩
      rw [hW, hdb]
      clear hW HPH hdb hbw
      have hl1 : L.length ≤ 2000 := by omega
      have hl2 : L.length ≤ 1024 := by omega
      have hj1 : j < 1000000 := by omega
      have HU := HU.out
      clear c0 c1 c2 c3
      have c0 := hD.c0
      have c1 := hD.c1
      have c2 := hD.c2
      have c3 := hD.c3
      dsimp only at c0 c1 c2 c3
      have hDd : PD w db ⟨k0, d0, t0, s0⟩ p w2.heap.size L L j W.drew := hD.step ((Keeps.refl _ _).drewN 1)
      go_cut [8] (fun v wx => v = .bool true ∧ ∃ (L' : List IA) (j' : Nat), j' ≤ i + 1 ∧ L'.length ≤ i + 1 ∧ Uniq L' ∧ PT w (fun _ => False) p w2.heap.size L' L' j' wx)
      case first =>
        by_cases h3 : t = 3
        · subst h3
          go_wp2_with fail
          go_region_held3 (fun w' => w'.cell? ⟨db, 0, none⟩ = some (.int .u8 k0) ∧ w'.cell? ⟨db, 1, none⟩ = some (.int .u8 d0) ∧ w'.cell? ⟨db, 2, none⟩ = some (.string s0) ∧ w'.cell? ⟨db, 3, none⟩ = some (.int .u64 t0))
            (first | exact ⟨hDq.c0, hDq.c1, hDq.c2, hDq.c3⟩ | exact ⟨hDd.c0, hDd.c1, hDd.c2, hDd.c3⟩)
            (first
              | (go_at_call 14; refine (pd_id (u := ⟨k0, d0, t0, s0⟩) (by assumption) hdi).mono ?_; rintro e wq ⟨rfl, hDq⟩)
              | (go_at_call 13; refine (pd_stop (by assumption) hl1 (idOf d0 s0)).mono ?_; rintro e wq ⟨rfl, hDq⟩)
              | (go_at_call 15; refine (pd_rstop (by assumption) HU hl1 (idOf d0 s0)).mono ?_; rintro e wq ⟨rfl, hDq⟩))
          go_wp2_with fail
          go_meet
          case rel => exact ⟨rfl, delL L (idOf d0 s0), j, by omega, by have := delL_length_le L (idOf d0 s0); omega, uniq_delL HU _, hDq.out⟩
        by_cases h4 : t = 4
        · subst h4
          go_wp2_with fail
          refine (pt_due hD.pt hl1 t0).mono ?_; rintro e W1 ⟨av, rfl, hra, hpt1, hk1⟩
          have hd1 := (hk1.block db hD.lt (fun hh => hh.2 rfl)).trans hD.deed
          have e3 : W1.cell? ⟨db, 3, none⟩ = some (.int .u64 t0) := by rw [cell_at hd1]; rfl
          clear hD hDd hdi
          have hra := Lib.hid hra
          go_wp2_with fail
          refine (pt_rdue hpt1 HU hl1 t0).mono ?_; rintro e W2 ⟨ov, rfl, hrb, hpt2, hk2⟩
          have hra := hk2.row hra.out fun b hb => .inr hb
          have hF := Lib.hid (dueL_facts t0 L.length L (Nat.le_refl _) HU)
          have HP := Lib.hid (hpt2.hold (H' := fun _ => False) (Keeps.refl _ _) fun _ hb => hb.elim)
          clear hd1 e3 hk1 hk2 hpt1 hpt2
          obtain ⟨ks, hks⟩ : ∃ ks, (dueL t0 L).1 = ks := ⟨_, rfl⟩
          obtain ⟨L2, hL2⟩ : ∃ L2, (dueL t0 L).2 = L2 := ⟨_, rfl⟩
          rw [hks] at hra hrb hF
          rw [hL2] at hF HP
          clear hks hL2
          have hkl : ks.length ≤ 80 := by have := hF.out.2.2; omega
          obtain ⟨va, ca, rfl⟩ := hra.val
          obtain ⟨vb, cb, rfl⟩ := hrb.val
          simp only [List.length_map] at hra hrb ⊢
          have HA := Lib.hid hra
          have HB := Lib.hid hrb
          clear hra hrb
          go_wp2_with fail
          go_loopw [8, 11] (fun v iv wr => v = .bool true ∧ (∃ k : Nat, k ≤ ks.length ∧ iv = .int .i64 k) ∧ Keeps (fun _ => False) W2 wr) (fun _ iv _ => ks.length - (intOf iv).toNat)
          case atStart => exact ⟨rfl, ⟨0, Nat.zero_le _, rfl⟩, Keeps.refl _ _⟩
          case round =>
            obtain ⟨rfl, ⟨k, hk, rfl⟩, hkw⟩ := hrel
            by_cases hlt : k < ks.length
            · have ra := HA.out.keeps hkw (fun _ _ => id)
              have rb := HB.out.keeps hkw (fun _ _ => id)
              obtain ⟨b1, o1, q1, e1, hq1, hm1, hc1⟩ := ra.cells (by rw [List.length_map]; omega)
              obtain ⟨b2, o2, q2, e2, hq2, hm2, hc2⟩ := rb.cells (by rw [List.length_map]; omega)
              simp only [Value.slice.injEq] at e1 e2
              obtain ⟨rfl, -, rfl⟩ := e1
              obtain ⟨rfl, -, rfl⟩ := e2
              have g1 := hc1 k (by rw [List.length_map]; exact hlt)
              have g2 := hc2 k (by rw [List.length_map]; exact hlt)
              rw [List.getElem_map] at g1 g2
              obtain ⟨z, hz⟩ : ∃ z, ks[k] = z := ⟨_, rfl⟩
              rw [hz] at g1 g2
              unfold strV at g1 g2
              have hlt' : (k : Int) < ks.length := by omega
              have HK := Lib.hid hkw
              clear hz hc1 hc2 hm1 hm2 hq1 hq2 hkw ra rb
              go_wp2_with fail
              go_quiet (fail)
              go_wp2_with fail
              go_roundw
              case rel => exact ⟨rfl, ⟨k + 1, by omega, by go_num⟩, HK.out.drewN _⟩
              case measure => simp [intOf]; omega
            · have HK := Lib.hid hkw
              clear hkw
              go_wp2_with fail
              go_meet
              case rel => exact ⟨rfl, L2, j, by omega, by have := hF.out.2.1; omega, hF.out.1, HP.out.step HK.out⟩
        by_cases h5 : t = 5
        · subst h5
          go_wp2_with (first
            | (go_at_call 14; refine (pd_id (u := ⟨k0, d0, t0, s0⟩) (by assumption) hdi).mono ?_; rintro e wq ⟨rfl, hDq⟩; have c0 := hDq.c0; have c1 := hDq.c1; have c2 := hDq.c2; have c3 := hDq.c3; dsimp only at c0 c1 c2 c3)
            | (go_at_call 17; refine (pd_at (by assumption) (idOf d0 s0)).mono ?_; rintro e wq ⟨rfl, hDq⟩; have c0 := hDq.c0; have c1 := hDq.c1; have c2 := hDq.c2; have c3 := hDq.c3; dsimp only at c0 c1 c2 c3)
            | (go_at_call 18; refine (pd_rat (by assumption) hl1 (idOf d0 s0)).mono ?_; rintro e wq ⟨rfl, hDq⟩; have c0 := hDq.c0; have c1 := hDq.c1; have c2 := hDq.c2; have c3 := hDq.c3; dsimp only at c0 c1 c2 c3))
          go_meet
          case rel => exact ⟨rfl, L, j, by omega, by omega, HU, hDq.out⟩
        have b3 : (t == 3) = false := by simpa using h3
        have b4 : (t == 4) = false := by simpa using h4
        have b5 : (t == 5) = false := by simpa using h5
        go_wp2_with fail
        go_region_held3 (fun w' => w'.cell? ⟨db, 0, none⟩ = some (.int .u8 k0) ∧ w'.cell? ⟨db, 1, none⟩ = some (.int .u8 d0) ∧ w'.cell? ⟨db, 2, none⟩ = some (.string s0) ∧ w'.cell? ⟨db, 3, none⟩ = some (.int .u64 t0))
          (first | exact ⟨hDq.c0, hDq.c1, hDq.c2, hDq.c3⟩ | exact ⟨hDd.c0, hDd.c1, hDd.c2, hDd.c3⟩)
          (first
            | (go_at_call 14; refine (pd_id (u := ⟨k0, d0, t0, s0⟩) (by assumption) hdi).mono ?_; rintro e wq ⟨rfl, hDq⟩)
            | (go_at_call 10; refine (pd_set (by assumption) hl2 hj1 (idOf d0 s0) t0).mono ?_; rintro e wq ⟨rfl, hDq⟩)
            | (go_at_call 19; refine (pd_rset (by assumption) HU hl2 (idOf d0 s0) t0).mono ?_; rintro e wq ⟨rfl, hDq⟩))
        go_wp2_with fail
        go_meet
        case rel => exact ⟨rfl, setL L (idOf d0 s0) t0, j + 1, by omega, by have := setL_len L (idOf d0 s0) t0; omega, setL_uniq HU _ _, hDq.out⟩
      case rest =>
        obtain ⟨rfl, L', j', h1, h2, h3, h4⟩ := hcut
        have hl' : L'.length ≤ 2000 := by omega
        have CN := Lib.hid (pt_next h4)
        have HP := Lib.hid h4
        have HU := Lib.hid h3
        clear h4 h3
        go_wp2_with fail
        refine CN.out.mono ?_; rintro e w3 ⟨rfl, k3⟩
        have HP3 := Lib.hid (HP.out.step k3)
        have CR := Lib.hid (pt_rnext HP3.out hl')
        clear CN HP k3
        cases hmin : minL L' with
        | none =>
          simp only [hmin, nextV] at CR ⊢
          go_wp2_with fail
          refine CR.out.mono ?_; rintro e w4 ⟨rfl, k4⟩
          have HP4 := Lib.hid (HP3.out.step k4)
          clear CR k4
          have hrr : w2.heap.size < w4.heap.size := by obtain ⟨_, _, _, g, _⟩ := HP4.out; exact g.lt
          obtain ⟨sv, hsv⟩ : ∃ sv, RefAt w4 w2.heap.size sv L' := by obtain ⟨_, sv, _, g, _⟩ := HP4.out; exact ⟨sv, g⟩
          obtain ⟨va, vc, rfl, _⟩ := hsv.row.val
          have hcr : w4.cell? ⟨w2.heap.size, 0, none⟩ = some (.slice va L'.length vc) := by rw [cell_at hsv.own]; rfl
          have CLn := Lib.hid (pt_len HP4.out)
          clear hsv
          go_wp2_with (go_quiet (first | (go_at_call 12; refine Calls.quiet_of_same ((pt_len (HP4.out.step ((Keeps.refl _ _).drewN _))).mono fun e w' h => ⟨h.1, h.2.symm⟩))))
          go_roundw
          case rel => exact ⟨i + 1, j', L', by go_num, by omega, by omega, by omega, by omega, HU.out, HP4.out.step ((Keeps.refl _ _).drewN _)⟩
          case measure => simp [intOf]; omega
        | some x =>
          simp only [hmin, nextV] at CR ⊢
          go_wp2_with fail
          refine CR.out.mono ?_; rintro e w4 ⟨rfl, k4⟩
          have HP4 := Lib.hid (HP3.out.step k4)
          clear CR k4
          have hrr : w2.heap.size < w4.heap.size := by obtain ⟨_, _, _, g, _⟩ := HP4.out; exact g.lt
          obtain ⟨sv, hsv⟩ : ∃ sv, RefAt w4 w2.heap.size sv L' := by obtain ⟨_, sv, _, g, _⟩ := HP4.out; exact ⟨sv, g⟩
          obtain ⟨va, vc, rfl, _⟩ := hsv.row.val
          have hcr : w4.cell? ⟨w2.heap.size, 0, none⟩ = some (.slice va L'.length vc) := by rw [cell_at hsv.own]; rfl
          clear hsv
          go_wp2_with (go_quiet (first | (go_at_call 12; refine Calls.quiet_of_same ((pt_len (HP4.out.step ((Keeps.refl _ _).drewN _))).mono fun e w' h => ⟨h.1, h.2.symm⟩))))
          go_roundw
          case rel => exact ⟨i + 1, j', L', by go_num, by omega, by omega, by omega, by omega, HU.out, HP4.out.step ((Keeps.refl _ _).drewN _)⟩
          case measure => simp [intOf]; omega
    · have HP := Lib.hid hpt.keeps
      clear hpt hu
      by_cases hlt : i < len
      · have hlt' : (i : Int) < len := by omega
        have h80 : ¬ (i : Int) < 80 := by omega
        go_wp2_with fail
        go_ret
        exact ⟨rfl, HP.out⟩
      · have hlt' : ¬ (i : Int) < len := by omega
        go_wp2_with fail
        go_ret
        exact ⟨rfl, HP.out⟩
end Go.Proofs.Ytfecgibdhglhiaa
