/-
  TimerDue's function returns true at every slice of bytes and every three bytes: what falls due in two steps is what does in one, and what was stopped never does.
  Conditions: the slice is nil, or its cells may be read as bytes.
-/
import Derived.Test.YtfecgibdhglhiaaTwo
import Derived.Deep.DeepCutAuto
import Derived.Deep.QuietTactic
import Derived.BigQuiet
namespace Go.Proofs.Ytfecgibdhglhiaa
open Go.RowKit
def u8V (n : Int) : Value := .int .u8 n
theorem Try.info5 : (Try.prog.info? 5).map (fun i => (i.zero, i.size, i.bytes)) = some (some (.int .u8 0), 1, 1) := by kernel_rfl
theorem atL_none {L : List IA} {k : ByteArray} (h : hasL L k = false) : atL L k = none := by
  unfold atL
  rw [List.find?_eq_none.2]; · rfl
  unfold hasL at h
  rw [List.any_eq_false] at h
  exact h
theorem RowAt.form {w : World} {e : TypeId} {v : Value} {xs : List Value} {m : Nat} (h : RowAt w e v xs) (hm : xs.length = m) (h0 : 0 < m) : ∃ b off c, v = .slice (some ⟨b, off, none⟩) m c ∧ m ≤ c ∧ c ≤ maxLen := by
  subst hm
  obtain ⟨b, off, c, h1, h2, h3, _⟩ := h.cells h0
  exact ⟨b, off, c, h1, h2, h3⟩
theorem RowAt.cellAt {w : World} {e : TypeId} {b off m c : Nat} {xs : List Value} (h : RowAt w e (.slice (some ⟨b, off, none⟩) m c) xs) {i : Nat} (hi : i < xs.length) : w.cell? ⟨b, off + i, none⟩ = some xs[i] := by
  obtain ⟨b', o', c', e, _, _, hc⟩ := h.cells (by omega)
  simp only [Value.slice.injEq, Option.some.injEq, Addr.mk.injEq, and_true] at e
  obtain ⟨⟨rfl, rfl⟩, _, rfl⟩ := e
  exact hc i hi
theorem Two.holdNew {w wr w2 : World} {H H' : Nat → Prop} {p q : Nat} {L M : List IA} {j k : Nat} (h : Two w H p q L M j k wr) (hk : Keeps (fun _ => False) wr w2) (hn : ∀ b, H' b → H b ∨ (wr.heap.size ≤ b ∧ b < w2.heap.size)) : Two w H' p q L M j k w2 := by
  obtain ⟨F, G, h1, h2, h3, h4, h5, h6⟩ := h
  refine ⟨F, G, h1.keeps hk fun _ _ => id, h2.keeps hk fun _ _ => id, fun b hb => ⟨(h3 b hb).1, (h3 b hb).2.1, fun hh => ?_⟩, fun b hb => ⟨(h4 b hb).1, fun hh => ?_⟩, fun b hb => ?_, h6.trans hk⟩
  · rcases hn b hh with h7 | h7
    · exact (h3 b hb).2.2 h7
    · have := h1.lt hb; omega
  · rcases hn b hh with h7 | h7
    · exact (h4 b hb).2 h7
    · have := h2.lt hb; omega
  · rcases hn b hb with h7 | h7
    · exact Nat.lt_of_lt_of_le (h5 b h7) hk.size
    · exact h7.2
def HB (b x : Nat) : Prop := x = b
def DSet (w : World) (lb : Nat) (p q : Nat) (bv : Value) (bl : List Value) (L M : List IA) (j k : Nat) (wr : World) : Prop := Two w (HB lb) p q L M j k wr ∧ RowAt wr 5 bv bl
def DLoop (w : World) (lb : Nat) (p q : Nat) (bv : Value) (bl : List Value) (zs : List Int) (m : Nat) (iv : Value) (wr : World) : Prop :=
  ∃ k : Nat, iv = .int .i64 k ∧ k ≤ m ∧ DSet w lb p q bv bl (bytL zs 0 k) (bytL zs 0 k) k k wr
set_option maxRecDepth 100000 in
set_option maxHeartbeats 4000000 in
theorem due_some (x : Addr) (len c : Nat) (z0 : List Int) (a1 a2 a3 : Int) (w : World) (hlc : len ≤ c)
    (hz : ∀ i, 0 ≤ z0.getD i 0 ∧ z0.getD i 0 ≤ 255) (h1 : 0 ≤ a1 ∧ a1 ≤ 255) (h2 : 0 ≤ a2 ∧ a2 ≤ 255) (h3 : 0 ≤ a3 ∧ a3 ≤ 255)
    (hsrc : ∀ n W, n ≤ len → Keeps (fun _ => False) w W → Src Try.prog 1 22 (.slice (some x) n c) n ((z0.take n).map u8V) W) (hzl : len ≤ z0.length) :
    Calls Try.prog 5 #[.slice (some x) len c, .int .u8 a1, .int .u8 a2, .int .u8 a3] w fun e w' => e = .returned (.bool true) ∧ Keeps (fun _ => False) w w' := by
  obtain ⟨n, hn⟩ : ∃ n, min len 20 = n := ⟨_, rfl⟩
  have hn1 : n ≤ len := by omega
  have hn2 : n ≤ 20 := by omega
  have hmn : (if (20 : Int) < (len : Int) then (20 : Int) else len) = (n : Int) := by split <;> omega
  obtain ⟨i0, hi, hz0, hz1, hz2⟩ := info_parts Try.info5
  obtain ⟨i9, hi9, hy0, hy1, hy2⟩ := info_parts Try.info9
  have HN := Lib.hid hn
  have HZ := Lib.hid hz
  have HS := Lib.hid (fun W => hsrc n W hn1)
  have HZL := Lib.hid hzl
  clear hz hn hsrc hzl
  go_enter Try.func5, Try.ntmps5
  go_wp2_with fail
  refine (examples_any w).mono ?_; rintro e w1 ⟨rfl, k1⟩
  go_wp2_with fail
  refine (newL w1).mono ?_; rintro e w0 ⟨p, F0, rfl, h0, f0, k0⟩
  have k0' : Keeps (fun _ => False) w w0 := k1.trans k0
  have f0' : ∀ b, F0 b → w.heap.size ≤ b := fun b hb => Nat.le_trans k1.size (f0 b hb)
  have C0 := Lib.hid (two_new k0' h0 f0')
  clear k0 f0 k1 h0 f0'
  go_wp2_with fail
  refine C0.out.mono ?_; rintro e w2 ⟨q, rfl, ht⟩
  have HT := Lib.hid ht
  have HKp := Lib.hid ht.keeps
  clear C0 k0' ht
  go_wp2_with (at_builtin; refine wpList_app_row rfl _ _ 22 22 rfl 5 i0 (.int .u8 0) 1 Try.underlying22 hi hz0 hz1 hz2 rfl _ [.int .u8 9] rfl ?cA _ n ((z0.take n).map u8V) rfl ?cB ?cC ?cD ?_)
  case cA => exact .inr ⟨w2.heap.size, 0, 1, #[.int .u8 9], rfl, heap_alloc_new _ _, by simp, by simp [maxLen], by simp, by simp⟩
  case cB => exact HS.out _ (HKp.out.alloc _)
  case cC => simp [maxLen]; omega
  case cD => simp; omega
  intro lv w3 hrow hk3 hb3
  obtain ⟨zs, hzs⟩ : ∃ zs, 9 :: z0.take n = zs := ⟨_, rfl⟩
  obtain ⟨m, hm⟩ : ∃ m, zs.length = m := ⟨_, rfl⟩
  have hmn1 : m = n + 1 := by rw [← hm, ← hzs, List.length_cons, List.length_take, Nat.min_eq_left (by have := HZL.out; omega)]
  have hbl : Value.int .u8 9 :: List.take n (List.map u8V z0) = zs.map u8V := by rw [← hzs, List.map_cons, List.map_take]; rfl
  rw [hbl] at hrow
  have hlen : (zs.map u8V).length = m := by rw [List.length_map, hm]
  obtain ⟨lb, lo, lc, rfl, hle, hlm⟩ := hrow.form hlen (by omega)
  have hlbn : w2.heap.size ≤ lb := by
    rcases hb3 lb rfl with h | h
    · first | omega | (simp [Value.ownBlock] at h; omega)
    · first | omega | (simp at h; omega)
  have hk4 : Keeps (fun _ => False) w2 w3 := ((Keeps.refl _ _).alloc _).trans' hk3 fun i hi e => by simp only [Value.ownBlock, Option.some.injEq] at e; omega
  have hd0 : DSet w lb p q (.slice (some ⟨lb, lo, none⟩) m lc) (zs.map u8V) [] [] 0 0 w3 := by
    exact ⟨HT.out.holdNew hk4 fun b hb => .inr ⟨by unfold HB at hb; omega, by unfold HB at hb; rw [hb]; exact hrow.lt rfl⟩, hrow⟩
  have hzr : ∀ i, 0 ≤ zs.getD i 0 ∧ zs.getD i 0 ≤ 255 := by
    intro i
    rw [← hzs]
    cases i with
    | zero => simp
    | succ i =>
      have := HZ.out i
      rw [List.getD_cons_succ, List.getD_eq_getElem?_getD, List.getElem?_take]
      rw [List.getD_eq_getElem?_getD] at this
      split
      · exact this
      · simp
  obtain ⟨s, hs⟩ : ∃ s : Nat, a3 % (m : Int) = s := ⟨(a3 % (m : Int)).toNat, by have := Int.emod_nonneg a3 (show (m : Int) ≠ 0 by omega); omega⟩
  have hsm : s < m := by have := Int.emod_lt_of_pos a3 (show (0 : Int) < m by omega); omega
  have HD := Lib.hid hd0
  have HR := Lib.hid hzr
  have HM := Lib.hid hm
  have HML := Lib.hid hmn1
  have hm20 : m ≤ 21 := by omega
  have hm0 : 1 ≤ m := by omega
  clear hd0 hrow hk3 hb3 hk4 hzr hm hmn1 hbl hzs hlen HT HKp HS HZ HZL HN hlbn hn1 hn2 hmn
  have hcv := conv1
  go_wp2
  try simp only [hs]
  clear hcv
  have HSS := Lib.hid hs
  clear hs
  go_loopw [13] (fun iv wr => DLoop w lb p q (.slice (some ⟨lb, lo, none⟩) m lc) (zs.map u8V) zs m iv wr) (fun iv _ => m - (intOf iv).toNat)
  case atStart =>
    refine ⟨0, rfl, by omega, ?_⟩
    obtain ⟨d1, d2⟩ := HD.out
    exact ⟨d1.step ((Keeps.refl _ _).alloc _), d2.keeps (F := fun _ => False) ((Keeps.refl _ _).alloc _) fun _ _ => id⟩
  case round =>
    clear HD
    obtain ⟨k, rfl, hkm, hd, hrow⟩ := hrel
    by_cases hlt : k < m
    · have hcv := conv1d
      have x1 : IntKind.i64.wrap (97 + (k : Int)) = 97 + k := IntWalk.i64_in _ (by omega)
      have x2 : IntKind.u8.wrap (97 + (k : Int)) = 97 + k := IntWalk.u8_in _ (by omega)
      have hkn' : (k : Int) < m := by omega
      obtain ⟨z, hz⟩ : ∃ z, zs.getD k 0 = z := ⟨_, rfl⟩
      obtain ⟨z0, z1⟩ := HR.out k
      rw [hz] at z0 z1
      have x3 : IntKind.u64.wrap z = z := IntWalk.u64_in _ (by omega)
      have hset : setL (bytL zs 0 k) (key1 k) z = bytL zs 0 (k + 1) := by rw [← bytL_setL (by omega), hz, Int.add_zero]
      have c1 : ∀ W, Two w (HB lb) p q (bytL zs 0 k) (bytL zs 0 k) k k W → Calls Try.prog 10 #[.pointer (some ⟨p, 0, none⟩), .string (strOfNums [97 + (k : Int)]), .int .u64 z] W fun e w2 =>
          e = .returned (.int .i64 0) ∧ Two w (HB lb) p q (bytL zs 0 (k + 1)) (bytL zs 0 k) (k + 1) k w2 ∧ HK w (HB lb) W w2 := by
        intro W hW
        have := two_set1 hW (by rw [bytL_length]; omega) (by omega) (key1 k) z
        rw [hset, bytL_setE (by omega)] at this
        exact this
      have c2 : ∀ W, Two w (HB lb) p q (bytL zs 0 (k + 1)) (bytL zs 0 k) (k + 1) k W → Calls Try.prog 10 #[.pointer (some ⟨q, 0, none⟩), .string (strOfNums [97 + (k : Int)]), .int .u64 z] W fun e w2 =>
          e = .returned (.int .i64 0) ∧ Two w (HB lb) p q (bytL zs 0 (k + 1)) (bytL zs 0 (k + 1)) (k + 1) (k + 1) w2 ∧ HK w (HB lb) W w2 := by
        intro W hW
        have := two_set2 hW (by rw [bytL_length]; omega) (by omega) (key1 k) z
        rw [hset, bytL_setE (by omega)] at this
        exact this
      have hcell : ∀ W, RowAt W 5 (.slice (some ⟨lb, lo, none⟩) m lc) (zs.map u8V) → lb < W.heap.size ∧ W.cell? ⟨lb, lo + k, none⟩ = some (.int .u8 z) := by
        intro W hW
        refine ⟨hW.lt rfl, ?_⟩
        have hlen : (zs.map u8V).length = m := by rw [List.length_map, HM.out]
        rw [hW.cellAt (by rw [hlen]; omega), List.getElem_map, ← hz]
        have hk' : k < zs.length := by rw [HM.out]; omega
        rw [List.getD_eq_getElem?_getD, List.getElem?_eq_getElem hk']; rfl
      have C1 := Lib.hid c1
      have C2 := Lib.hid c2
      have HD := Lib.hid hd
      have HRow := Lib.hid hrow
      obtain ⟨hbl, hq⟩ := hcell _ hrow
      have HCell := Lib.hid hcell
      clear c1 c2 hset hz hd hrow hcell
      go_upto_region 13 with fail
      go_cut [] (fun wx => DSet w lb p q (.slice (some ⟨lb, lo, none⟩) m lc) (zs.map u8V) (bytL zs 0 (k + 1)) (bytL zs 0 k) (k + 1) k wx)
      case first =>
        go_region_with (go_at_call 10; refine (C1.out _ (HD.out.step ((Keeps.refl _ _).alloc _).drew)).mono ?_; rintro e w2 ⟨rfl, g1, g2⟩)
        all_goals (go_wp2_with fail; go_meet; exact ⟨g1, g2.row (HRow.out.keeps (F := fun _ => False) ((Keeps.refl _ _).alloc _).drew fun _ _ => id) fun b hb => by simp only [Value.ownBlock, Option.some.injEq] at hb; exact hb.symm⟩)
      case rest =>
        obtain ⟨d1, d2⟩ := hcut
        obtain ⟨hbl, hq⟩ := HCell.out _ d2
        have HD := Lib.hid d1
        have HRow := Lib.hid d2
        clear d1 d2 C1
        go_wp2_with fail
        go_region_with (go_at_call 10; refine (C2.out _ (HD.out.step ((Keeps.refl _ _).alloc _).drew)).mono ?_; rintro e w2 ⟨rfl, g1, g2⟩)
        all_goals
          have HC := Lib.hid (show DSet w lb p q (.slice (some ⟨lb, lo, none⟩) m lc) (zs.map u8V) (bytL zs 0 (k + 1)) (bytL zs 0 (k + 1)) (k + 1) (k + 1) w2 from ⟨g1, g2.row (HRow.out.keeps (F := fun _ => False) ((Keeps.refl _ _).alloc _).drew fun _ _ => id) fun b hb => by simp only [Value.ownBlock, Option.some.injEq] at hb; exact hb.symm⟩)
          clear g1 g2 HD HRow HCell hcv x1 x2 x3 hq hbl C2
          go_wp2
          go_roundw
          case rel => exact ⟨k + 1, by go_num, by omega, HC.out⟩
          case measure => simp [intOf]; omega
    · obtain rfl : k = m := by omega
      have hk1 : hasL (bytL zs 0 k) (key1 s) = true := bytL_has.2 ⟨s, hsm, rfl⟩
      have hu0 : Uniq (bytL zs 0 k) := bytL_uniq _ _ _ (by omega)
      obtain ⟨L1, hL1⟩ : ∃ L1, delL (bytL zs 0 k) (key1 s) = L1 := ⟨_, rfl⟩
      have hu1 : Uniq L1 := by rw [← hL1]; exact uniq_delL hu0 _
      have hl1 : L1.length + 1 = k := by rw [← hL1]; have := delL_uniq hu0 hk1; rw [bytL_length] at this; exact this
      have hno : hasL L1 (key1 s) = false := by rw [← hL1]; exact has_del _ _
      obtain ⟨hi', hhi⟩ : ∃ hi', (if a1 < a2 then a2 else a1) = hi' := ⟨_, rfl⟩
      obtain ⟨lo', hlo⟩ : ∃ lo', (if a2 < a1 then a2 else a1) = lo' := ⟨_, rfl⟩
      have hlh : lo' ≤ hi' := by rw [← hlo, ← hhi]; split <;> split <;> omega
      have hb1 : 0 ≤ lo' ∧ lo' ≤ 255 := by rw [← hlo]; split <;> omega
      have hb2 : 0 ≤ hi' ∧ hi' ≤ 255 := by rw [← hhi]; split <;> omega
      obtain ⟨hXY, hRest⟩ := due_two hlh hu1
      have hcount := due_count hi' hu1
      have hmem := (due_rest hi' hu1).2.2
      have hd0 : Two w (fun _ => False) p q (bytL zs 0 k) (bytL zs 0 k) k k wr := hd.holdNew (Keeps.refl _ _) fun b hb => hb.elim
      have c1 := two_stop1 hd0 (by rw [bytL_length]; omega) (key1 s)
      rw [hk1, hL1] at c1
      have C1 := Lib.hid c1
      have c2 := fun W (hW : Two w (fun _ => False) p q L1 (bytL zs 0 k) k k W) => two_stop2 hW (by rw [bytL_length]; omega) (key1 s)
      rw [hk1, hL1] at c2
      have C2 := Lib.hid c2
      have HXY := Lib.hid hXY
      have HRest := Lib.hid hRest
      have HCount := Lib.hid hcount
      have HMem := Lib.hid hmem
      have HNo := Lib.hid hno
      have HL1 := Lib.hid hl1
      have hl2000 : L1.length ≤ 2000 := by omega
      have hl3 : (dueL lo' L1).2.length ≤ 2000 := by have := due_count lo' hu1; omega
      have hnr : hasL (dueL hi' L1).2 (key1 s) = false := by
        cases hh : hasL (dueL hi' L1).2 (key1 s) with
        | false => rfl
        | true =>
          unfold hasL at hh
          obtain ⟨y, hy, e⟩ := List.any_eq_true.1 hh
          have := ((due_rest hi' hu1).2.1 y hy).1
          rw [← hno]; unfold hasL
          exact (List.any_eq_true.2 ⟨y, this, e⟩).symm
      have HL3 := Lib.hid hl3
      have HNR := Lib.hid hnr
      clear hd hrow hd0 c1 c2 hXY hRest hcount hmem hno hL1 hu0 hu1 hk1 HR hl1 hl3 hnr
      unfold key1 at C1 C2
      go_wp2_with fail
      refine C1.out.mono ?_; rintro e w1 ⟨rfl, d1, _⟩
      have H1 := Lib.hid d1
      clear d1 C1
      go_wp2_with fail
      refine (C2.out _ H1.out).mono ?_; rintro e w2 ⟨rfl, d2, _⟩
      have C3 := Lib.hid (two_due1 d2 hl2000 lo')
      clear d2 C2 H1
      go_wp2_with fail
      refine C3.out.mono ?_; rintro e w3 ⟨sx, rfl, rx, d3, _⟩
      have hl3 : (dueL lo' L1).2.length ≤ 2000 := HL3.out
      have C4 := Lib.hid (two_due1 d3 hl3 hi')
      have RX := Lib.hid rx
      clear d3 C3 rx
      go_wp2_with fail
      refine C4.out.mono ?_; rintro e w4 ⟨sy, rfl, ry, d4, k4⟩
      have rx := k4.row RX.out fun b hb => .inr hb
      have C5 := Lib.hid (two_due2 d4 hl2000 hi')
      have RX := Lib.hid rx
      have RY := Lib.hid ry
      clear d4 C4 rx ry k4
      go_wp2_with fail
      refine C5.out.mono ?_; rintro e w5 ⟨sz, rfl, rz, d5, k5⟩
      have rx := k5.row RX.out fun b hb => .inl (.inr hb)
      have ry := k5.row RY.out fun b hb => .inr hb
      have h17 := two_at1 d5 (key1 s)
      rw [show (dueL hi' (dueL lo' L1).2).2 = (dueL hi' L1).2 from HRest.out] at d5 h17
      rw [atL_none HNR.out] at h17
      unfold key1 at h17
      obtain ⟨xs, hxs⟩ : ∃ xs, (dueL lo' L1).1 = xs := ⟨_, rfl⟩
      obtain ⟨ys, hys⟩ : ∃ ys, (dueL hi' (dueL lo' L1).2).1 = ys := ⟨_, rfl⟩
      obtain ⟨us, hus⟩ : ∃ us, (dueL hi' L1).1 = us := ⟨_, rfl⟩
      obtain ⟨R, hR⟩ : ∃ R, (dueL hi' L1).2 = R := ⟨_, rfl⟩
      have hxy := HXY.out
      have hcnt := HCount.out
      have hmem := HMem.out
      have hno := HNo.out
      rw [hxs] at rx hxy
      rw [hys] at ry hxy
      rw [hus] at rz hxy hcnt hmem
      rw [hR] at d5 hcnt
      clear hxs hys hus hR HXY HCount HMem HNR HNo HL3 RX RY HRest C5 k5
      have HXY := Lib.hid hxy
      have hxl : xs.length + ys.length = us.length := by rw [← hxy, List.length_append]
      have hul : us.length ≤ 2000 := by omega
      have hRl : us.length + R.length = L1.length := hcnt
      have HMem := Lib.hid hmem
      have HNo := Lib.hid hno
      have HTwo := Lib.hid d5
      have RX := Lib.hid rx
      have RY := Lib.hid ry
      have RZ := Lib.hid rz
      have H17 := Lib.hid h17
      clear hxy hcnt hmem hno d5 rx ry rz h17
      go_wp2_with fail
      refine H17.out.mono ?_; rintro e w6 ⟨rfl, rfl⟩
      go_wp2_with (at_builtin; refine wpList_app_row rfl _ _ 30 30 rfl 9 i9 (.string ByteArray.empty) 16 Try.underlying30 hi9 hy0 hy1 hy2 rfl _ [] rfl (RowAt.nil _ _) _ xs.length (xs.map strV) rfl ?cB ?cC ?cD ?_)
      case cB => have h := RX.out.src (P := Try.prog) Try.underlying30 (fun u hu => by obtain ⟨z, _, rfl⟩ := List.mem_map.1 hu; rfl); rw [List.length_map] at h; exact h
      case cC => simp [maxLen]; omega
      case cD => simp; omega
      rintro sv1 w6 r1 k1 n1
      have k1' : Keeps (fun _ => False) w5 w6 := k1.mono fun b _ hb => by cases hb
      have n1' : ∀ b, sv1.ownBlock = Option.some b → w5.heap.size ≤ b := fun b hb => (n1 b hb).resolve_left (by intro h; cases h)
      have HK1 := Lib.hid k1'
      have HN1 := Lib.hid n1'
      have R1 := Lib.hid r1
      have RY6 := Lib.hid (RY.out.keeps k1' fun _ _ => id)
      clear k1 n1 k1' n1' r1 RX
      go_wp2_with (at_builtin; refine wpList_app_row rfl _ _ 30 30 rfl 9 i9 (.string ByteArray.empty) 16 Try.underlying30 hi9 hy0 hy1 hy2 rfl sv1 (xs.map strV) rfl R1.out _ ys.length (ys.map strV) rfl ?cB ?cC ?cD ?_)
      case cB => have h := RY6.out.src (P := Try.prog) Try.underlying30 (fun u hu => by obtain ⟨z, _, rfl⟩ := List.mem_map.1 hu; rfl); rw [List.length_map] at h; exact h
      case cC => simp [maxLen]; omega
      case cD => simp; omega
      rintro sv2 w7 r2 k2 n2
      rw [← List.map_append, HXY.out] at r2
      obtain ⟨av, ac, rfl⟩ := r2.val
      obtain ⟨zv, zc, rfl⟩ := RZ.out.val
      rw [List.length_map] at r2
      have hk7 : Keeps (fun _ => False) w5 w7 := HK1.out.trans' k2 fun i hi e => by have := HN1.out i e; omega
      have t7 := HTwo.out.step hk7
      have rz7 := RZ.out.keeps hk7 fun _ _ => id
      rw [List.length_map] at rz7
      have hl7 := two_len1 t7
      have hl8 := two_len2 t7
      have H7 := Lib.hid hl7
      have H8 := Lib.hid hl8
      have hl1 := HL1.out
      have y1 : IntKind.i64.wrap ((k : Int) - 1) = k - 1 := IntWalk.i64_in _ (by omega)
      have y2 : IntKind.i64.wrap ((k : Int) - 1 - us.length) = k - 1 - us.length := IntWalk.i64_in _ (by omega)
      have hl9 := two_len1 t7
      rw [show (R.length : Int) = (k : Int) - 1 - us.length by omega] at hl9
      have H9 := Lib.hid hl9
      have HA := Lib.hid r2
      have HZ := Lib.hid rz7
      have HKF := Lib.hid t7.keeps
      clear hl1 hl9 hl7 hl8 r2 rz7 t7 hk7 k2 n2 RY6 R1 HN1 HK1 RZ RY HTwo H17
      simp only [List.length_map]
      go_wp2_with fail
      refine H7.out.mono ?_; rintro e w8 ⟨rfl, rfl⟩
      go_wp2_with fail
      refine H8.out.mono ?_; rintro e w8 ⟨rfl, rfl⟩
      go_wp2_with fail
      refine H9.out.mono ?_; rintro e w8 ⟨rfl, rfl⟩
      clear H7 H8 H9
      go_wp2_with fail
      clear y1 y2
      go_loopw [21] (fun iv wr => ∃ j : Nat, iv = .int .i64 j ∧ j ≤ us.length ∧ Keeps (fun _ => False) w7 wr) (fun iv _ => us.length - (intOf iv).toNat)
      case atStart => exact ⟨0, rfl, by omega, Keeps.refl _ _⟩
      case round =>
        obtain ⟨j, rfl, hj, hkk⟩ := hrel
        have HA := Lib.hid (HA.out.keeps hkk fun _ _ => id)
        have HZ := Lib.hid (HZ.out.keeps hkk fun _ _ => id)
        have HKK := Lib.hid hkk
        clear hkk
        by_cases hju : j < us.length
        · have hju' : (j : Int) < us.length := by omega
          obtain ⟨b1, o1, c1, e1, g1, g2⟩ := HA.out.form (List.length_map ..) (by omega)
          simp only [Value.slice.injEq] at e1
          obtain ⟨rfl, _, rfl⟩ := e1
          obtain ⟨b2, o2, c2, e2, g3, g4⟩ := HZ.out.form (List.length_map ..) (by omega)
          simp only [Value.slice.injEq] at e2
          obtain ⟨rfl, _, rfl⟩ := e2
          obtain ⟨u, hu⟩ : ∃ u, us[j] = u := ⟨_, rfl⟩
          have hne : u ≠ strOfNums [97 + (s : Int)] := by
            rintro rfl
            have := HMem.out _ (hu ▸ List.getElem_mem hju)
            exact absurd (this.symm.trans HNo.out) (by simp)
          have q1 : wr.cell? ⟨b1, o1 + j, none⟩ = some (.string u) := by
            have := HA.out.cellAt (i := j) (by simpa using hju)
            rw [List.getElem_map, hu] at this; exact this
          have q2 : wr.cell? ⟨b2, o2 + j, none⟩ = some (.string u) := by
            have := HZ.out.cellAt (i := j) (by simpa using hju)
            rw [List.getElem_map, hu] at this; exact this
          have l1 := HA.out.lt rfl
          have l2 := HZ.out.lt rfl
          have hd : (u.toList == (strOfNums [97 + (s : Int)]).toList) = false := by rw [ByteArray.toList_eq, ByteArray.toList_eq, beq_eq_false_iff_ne]; intro h; exact hne (ByteArray.ext (Array.toList_inj.1 h))
          clear HMem HNo hu
          go_wp2_with (go_quiet (fail))
          go_roundw
          case rel => exact ⟨j + 1, by go_num, by omega, HKK.out.trans ((Keeps.refl _ _).drewN _)⟩
          case measure => simp [intOf]; omega
        · obtain rfl : j = us.length := by omega
          have hkf := HKF.out
          have hlt' : ¬ (us.length : Int) < us.length := by omega
          go_wp2
          go_ret
          exact ⟨rfl, HKF.out.trans HKK.out⟩
set_option maxRecDepth 100000 in
set_option maxHeartbeats 4000000 in
theorem due_nil (a1 a2 a3 : Int) (w : World) (h1 : 0 ≤ a1 ∧ a1 ≤ 255) (h2 : 0 ≤ a2 ∧ a2 ≤ 255) (h3 : 0 ≤ a3 ∧ a3 ≤ 255) :
    Calls Try.prog 5 #[.slice none 0 0, .int .u8 a1, .int .u8 a2, .int .u8 a3] w fun e w' => e = .returned (.bool true) ∧ Keeps (fun _ => False) w w' := by
  obtain ⟨i0, hi, hz0, hz1, hz2⟩ := info_parts Try.info5
  obtain ⟨i9, hi9, hy0, hy1, hy2⟩ := info_parts Try.info9
  go_enter Try.func5, Try.ntmps5
  go_wp2_with fail
  refine (examples_any w).mono ?_; rintro e w1 ⟨rfl, k1⟩
  go_wp2_with fail
  refine (newL w1).mono ?_; rintro e w0 ⟨p, F0, rfl, h0, f0, k0⟩
  have k0' : Keeps (fun _ => False) w w0 := k1.trans k0
  have f0' : ∀ b, F0 b → w.heap.size ≤ b := fun b hb => Nat.le_trans k1.size (f0 b hb)
  have C0 := Lib.hid (two_new k0' h0 f0')
  clear k0 f0 k1 h0 f0'
  go_wp2_with fail
  refine C0.out.mono ?_; rintro e w2 ⟨q, rfl, ht⟩
  have HT := Lib.hid ht
  have HKp := Lib.hid ht.keeps
  clear C0 k0' ht
  go_wp2_with (at_builtin; refine wpList_app_row rfl _ _ 22 22 rfl 5 i0 (.int .u8 0) 1 Try.underlying22 hi hz0 hz1 hz2 rfl _ [.int .u8 9] rfl ?cA _ 0 [] rfl ?cB ?cC ?cD ?_)
  case cA => exact .inr ⟨w2.heap.size, 0, 1, #[.int .u8 9], rfl, heap_alloc_new _ _, by simp, by simp [maxLen], by simp, by simp⟩
  case cB => exact Src.ofNil _ Try.underlying22 0
  case cC => simp [maxLen]
  case cD => simp
  intro lv w3 hrow hk3 hb3
  obtain ⟨zs, hzs⟩ : ∃ zs, [(9 : Int)] = zs := ⟨_, rfl⟩
  obtain ⟨m, hm⟩ : ∃ m, zs.length = m := ⟨_, rfl⟩
  have hmn1 : m = 1 := by rw [← hm, ← hzs]; rfl
  have hbl : [Value.int .u8 9] ++ [] = zs.map u8V := by rw [← hzs]; rfl
  change RowAt w3 5 lv ([Value.int .u8 9] ++ []) at hrow
  rw [hbl] at hrow
  have hlen : (zs.map u8V).length = m := by rw [List.length_map, hm]
  obtain ⟨lb, lo, lc, rfl, hle, hlm⟩ := hrow.form hlen (by omega)
  have hlbn : w2.heap.size ≤ lb := by
    rcases hb3 lb rfl with h | h
    · first | omega | (simp [Value.ownBlock] at h; omega)
    · first | omega | (simp at h; omega)
  have hk4 : Keeps (fun _ => False) w2 w3 := ((Keeps.refl _ _).alloc _).trans' hk3 fun i hi e => by simp only [Value.ownBlock, Option.some.injEq] at e; omega
  have hd0 : DSet w lb p q (.slice (some ⟨lb, lo, none⟩) m lc) (zs.map u8V) [] [] 0 0 w3 := by
    exact ⟨HT.out.holdNew hk4 fun b hb => .inr ⟨by unfold HB at hb; omega, by unfold HB at hb; rw [hb]; exact hrow.lt rfl⟩, hrow⟩
  have hzr : ∀ i, 0 ≤ zs.getD i 0 ∧ zs.getD i 0 ≤ 255 := by
    intro i
    rw [← hzs]
    cases i <;> simp
  obtain ⟨s, hs⟩ : ∃ s : Nat, a3 % (m : Int) = s := ⟨(a3 % (m : Int)).toNat, by have := Int.emod_nonneg a3 (show (m : Int) ≠ 0 by omega); omega⟩
  have hsm : s < m := by have := Int.emod_lt_of_pos a3 (show (0 : Int) < m by omega); omega
  have HD := Lib.hid hd0
  have HR := Lib.hid hzr
  have HM := Lib.hid hm
  have HML := Lib.hid hmn1
  have hm20 : m ≤ 21 := by omega
  have hm0 : 1 ≤ m := by omega
  clear hd0 hrow hk3 hb3 hk4 hzr hm hmn1 hbl hzs hlen HT HKp hlbn
  have hcv := conv1
  go_wp2
  try simp only [hs]
  clear hcv
  have HSS := Lib.hid hs
  clear hs
  go_loopw [13] (fun iv wr => DLoop w lb p q (.slice (some ⟨lb, lo, none⟩) m lc) (zs.map u8V) zs m iv wr) (fun iv _ => m - (intOf iv).toNat)
  case atStart =>
    refine ⟨0, rfl, by omega, ?_⟩
    obtain ⟨d1, d2⟩ := HD.out
    exact ⟨d1.step ((Keeps.refl _ _).alloc _), d2.keeps (F := fun _ => False) ((Keeps.refl _ _).alloc _) fun _ _ => id⟩
  case round =>
    clear HD
    obtain ⟨k, rfl, hkm, hd, hrow⟩ := hrel
    by_cases hlt : k < m
    · have hcv := conv1d
      have x1 : IntKind.i64.wrap (97 + (k : Int)) = 97 + k := IntWalk.i64_in _ (by omega)
      have x2 : IntKind.u8.wrap (97 + (k : Int)) = 97 + k := IntWalk.u8_in _ (by omega)
      have hkn' : (k : Int) < m := by omega
      obtain ⟨z, hz⟩ : ∃ z, zs.getD k 0 = z := ⟨_, rfl⟩
      obtain ⟨z0, z1⟩ := HR.out k
      rw [hz] at z0 z1
      have x3 : IntKind.u64.wrap z = z := IntWalk.u64_in _ (by omega)
      have hset : setL (bytL zs 0 k) (key1 k) z = bytL zs 0 (k + 1) := by rw [← bytL_setL (by omega), hz, Int.add_zero]
      have c1 : ∀ W, Two w (HB lb) p q (bytL zs 0 k) (bytL zs 0 k) k k W → Calls Try.prog 10 #[.pointer (some ⟨p, 0, none⟩), .string (strOfNums [97 + (k : Int)]), .int .u64 z] W fun e w2 =>
          e = .returned (.int .i64 0) ∧ Two w (HB lb) p q (bytL zs 0 (k + 1)) (bytL zs 0 k) (k + 1) k w2 ∧ HK w (HB lb) W w2 := by
        intro W hW
        have := two_set1 hW (by rw [bytL_length]; omega) (by omega) (key1 k) z
        rw [hset, bytL_setE (by omega)] at this
        exact this
      have c2 : ∀ W, Two w (HB lb) p q (bytL zs 0 (k + 1)) (bytL zs 0 k) (k + 1) k W → Calls Try.prog 10 #[.pointer (some ⟨q, 0, none⟩), .string (strOfNums [97 + (k : Int)]), .int .u64 z] W fun e w2 =>
          e = .returned (.int .i64 0) ∧ Two w (HB lb) p q (bytL zs 0 (k + 1)) (bytL zs 0 (k + 1)) (k + 1) (k + 1) w2 ∧ HK w (HB lb) W w2 := by
        intro W hW
        have := two_set2 hW (by rw [bytL_length]; omega) (by omega) (key1 k) z
        rw [hset, bytL_setE (by omega)] at this
        exact this
      have hcell : ∀ W, RowAt W 5 (.slice (some ⟨lb, lo, none⟩) m lc) (zs.map u8V) → lb < W.heap.size ∧ W.cell? ⟨lb, lo + k, none⟩ = some (.int .u8 z) := by
        intro W hW
        refine ⟨hW.lt rfl, ?_⟩
        have hlen : (zs.map u8V).length = m := by rw [List.length_map, HM.out]
        rw [hW.cellAt (by rw [hlen]; omega), List.getElem_map, ← hz]
        have hk' : k < zs.length := by rw [HM.out]; omega
        rw [List.getD_eq_getElem?_getD, List.getElem?_eq_getElem hk']; rfl
      have C1 := Lib.hid c1
      have C2 := Lib.hid c2
      have HD := Lib.hid hd
      have HRow := Lib.hid hrow
      obtain ⟨hbl, hq⟩ := hcell _ hrow
      have HCell := Lib.hid hcell
      clear c1 c2 hset hz hd hrow hcell
      go_upto_region 13 with fail
      go_cut [] (fun wx => DSet w lb p q (.slice (some ⟨lb, lo, none⟩) m lc) (zs.map u8V) (bytL zs 0 (k + 1)) (bytL zs 0 k) (k + 1) k wx)
      case first =>
        go_region_with (go_at_call 10; refine (C1.out _ (HD.out.step ((Keeps.refl _ _).alloc _).drew)).mono ?_; rintro e w2 ⟨rfl, g1, g2⟩)
        all_goals (go_wp2_with fail; go_meet; exact ⟨g1, g2.row (HRow.out.keeps (F := fun _ => False) ((Keeps.refl _ _).alloc _).drew fun _ _ => id) fun b hb => by simp only [Value.ownBlock, Option.some.injEq] at hb; exact hb.symm⟩)
      case rest =>
        obtain ⟨d1, d2⟩ := hcut
        obtain ⟨hbl, hq⟩ := HCell.out _ d2
        have HD := Lib.hid d1
        have HRow := Lib.hid d2
        clear d1 d2 C1
        go_wp2_with fail
        go_region_with (go_at_call 10; refine (C2.out _ (HD.out.step ((Keeps.refl _ _).alloc _).drew)).mono ?_; rintro e w2 ⟨rfl, g1, g2⟩)
        all_goals
          have HC := Lib.hid (show DSet w lb p q (.slice (some ⟨lb, lo, none⟩) m lc) (zs.map u8V) (bytL zs 0 (k + 1)) (bytL zs 0 (k + 1)) (k + 1) (k + 1) w2 from ⟨g1, g2.row (HRow.out.keeps (F := fun _ => False) ((Keeps.refl _ _).alloc _).drew fun _ _ => id) fun b hb => by simp only [Value.ownBlock, Option.some.injEq] at hb; exact hb.symm⟩)
          clear g1 g2 HD HRow HCell hcv x1 x2 x3 hq hbl C2
          go_wp2
          go_roundw
          case rel => exact ⟨k + 1, by go_num, by omega, HC.out⟩
          case measure => simp [intOf]; omega
    · obtain rfl : k = m := by omega
      have hk1 : hasL (bytL zs 0 k) (key1 s) = true := bytL_has.2 ⟨s, hsm, rfl⟩
      have hu0 : Uniq (bytL zs 0 k) := bytL_uniq _ _ _ (by omega)
      obtain ⟨L1, hL1⟩ : ∃ L1, delL (bytL zs 0 k) (key1 s) = L1 := ⟨_, rfl⟩
      have hu1 : Uniq L1 := by rw [← hL1]; exact uniq_delL hu0 _
      have hl1 : L1.length + 1 = k := by rw [← hL1]; have := delL_uniq hu0 hk1; rw [bytL_length] at this; exact this
      have hno : hasL L1 (key1 s) = false := by rw [← hL1]; exact has_del _ _
      obtain ⟨hi', hhi⟩ : ∃ hi', (if a1 < a2 then a2 else a1) = hi' := ⟨_, rfl⟩
      obtain ⟨lo', hlo⟩ : ∃ lo', (if a2 < a1 then a2 else a1) = lo' := ⟨_, rfl⟩
      have hlh : lo' ≤ hi' := by rw [← hlo, ← hhi]; split <;> split <;> omega
      have hb1 : 0 ≤ lo' ∧ lo' ≤ 255 := by rw [← hlo]; split <;> omega
      have hb2 : 0 ≤ hi' ∧ hi' ≤ 255 := by rw [← hhi]; split <;> omega
      obtain ⟨hXY, hRest⟩ := due_two hlh hu1
      have hcount := due_count hi' hu1
      have hmem := (due_rest hi' hu1).2.2
      have hd0 : Two w (fun _ => False) p q (bytL zs 0 k) (bytL zs 0 k) k k wr := hd.holdNew (Keeps.refl _ _) fun b hb => hb.elim
      have c1 := two_stop1 hd0 (by rw [bytL_length]; omega) (key1 s)
      rw [hk1, hL1] at c1
      have C1 := Lib.hid c1
      have c2 := fun W (hW : Two w (fun _ => False) p q L1 (bytL zs 0 k) k k W) => two_stop2 hW (by rw [bytL_length]; omega) (key1 s)
      rw [hk1, hL1] at c2
      have C2 := Lib.hid c2
      have HXY := Lib.hid hXY
      have HRest := Lib.hid hRest
      have HCount := Lib.hid hcount
      have HMem := Lib.hid hmem
      have HNo := Lib.hid hno
      have HL1 := Lib.hid hl1
      have hl2000 : L1.length ≤ 2000 := by omega
      have hl3 : (dueL lo' L1).2.length ≤ 2000 := by have := due_count lo' hu1; omega
      have hnr : hasL (dueL hi' L1).2 (key1 s) = false := by
        cases hh : hasL (dueL hi' L1).2 (key1 s) with
        | false => rfl
        | true =>
          unfold hasL at hh
          obtain ⟨y, hy, e⟩ := List.any_eq_true.1 hh
          have := ((due_rest hi' hu1).2.1 y hy).1
          rw [← hno]; unfold hasL
          exact (List.any_eq_true.2 ⟨y, this, e⟩).symm
      have HL3 := Lib.hid hl3
      have HNR := Lib.hid hnr
      clear hd hrow hd0 c1 c2 hXY hRest hcount hmem hno hL1 hu0 hu1 hk1 HR hl1 hl3 hnr
      unfold key1 at C1 C2
      go_wp2_with fail
      refine C1.out.mono ?_; rintro e w1 ⟨rfl, d1, _⟩
      have H1 := Lib.hid d1
      clear d1 C1
      go_wp2_with fail
      refine (C2.out _ H1.out).mono ?_; rintro e w2 ⟨rfl, d2, _⟩
      have C3 := Lib.hid (two_due1 d2 hl2000 lo')
      clear d2 C2 H1
      go_wp2_with fail
      refine C3.out.mono ?_; rintro e w3 ⟨sx, rfl, rx, d3, _⟩
      have hl3 : (dueL lo' L1).2.length ≤ 2000 := HL3.out
      have C4 := Lib.hid (two_due1 d3 hl3 hi')
      have RX := Lib.hid rx
      clear d3 C3 rx
      go_wp2_with fail
      refine C4.out.mono ?_; rintro e w4 ⟨sy, rfl, ry, d4, k4⟩
      have rx := k4.row RX.out fun b hb => .inr hb
      have C5 := Lib.hid (two_due2 d4 hl2000 hi')
      have RX := Lib.hid rx
      have RY := Lib.hid ry
      clear d4 C4 rx ry k4
      go_wp2_with fail
      refine C5.out.mono ?_; rintro e w5 ⟨sz, rfl, rz, d5, k5⟩
      have rx := k5.row RX.out fun b hb => .inl (.inr hb)
      have ry := k5.row RY.out fun b hb => .inr hb
      have h17 := two_at1 d5 (key1 s)
      rw [show (dueL hi' (dueL lo' L1).2).2 = (dueL hi' L1).2 from HRest.out] at d5 h17
      rw [atL_none HNR.out] at h17
      unfold key1 at h17
      obtain ⟨xs, hxs⟩ : ∃ xs, (dueL lo' L1).1 = xs := ⟨_, rfl⟩
      obtain ⟨ys, hys⟩ : ∃ ys, (dueL hi' (dueL lo' L1).2).1 = ys := ⟨_, rfl⟩
      obtain ⟨us, hus⟩ : ∃ us, (dueL hi' L1).1 = us := ⟨_, rfl⟩
      obtain ⟨R, hR⟩ : ∃ R, (dueL hi' L1).2 = R := ⟨_, rfl⟩
      have hxy := HXY.out
      have hcnt := HCount.out
      have hmem := HMem.out
      have hno := HNo.out
      rw [hxs] at rx hxy
      rw [hys] at ry hxy
      rw [hus] at rz hxy hcnt hmem
      rw [hR] at d5 hcnt
      clear hxs hys hus hR HXY HCount HMem HNR HNo HL3 RX RY HRest C5 k5
      have HXY := Lib.hid hxy
      have hxl : xs.length + ys.length = us.length := by rw [← hxy, List.length_append]
      have hul : us.length ≤ 2000 := by omega
      have hRl : us.length + R.length = L1.length := hcnt
      have HMem := Lib.hid hmem
      have HNo := Lib.hid hno
      have HTwo := Lib.hid d5
      have RX := Lib.hid rx
      have RY := Lib.hid ry
      have RZ := Lib.hid rz
      have H17 := Lib.hid h17
      clear hxy hcnt hmem hno d5 rx ry rz h17
      go_wp2_with fail
      refine H17.out.mono ?_; rintro e w6 ⟨rfl, rfl⟩
      go_wp2_with (at_builtin; refine wpList_app_row rfl _ _ 30 30 rfl 9 i9 (.string ByteArray.empty) 16 Try.underlying30 hi9 hy0 hy1 hy2 rfl _ [] rfl (RowAt.nil _ _) _ xs.length (xs.map strV) rfl ?cB ?cC ?cD ?_)
      case cB => have h := RX.out.src (P := Try.prog) Try.underlying30 (fun u hu => by obtain ⟨z, _, rfl⟩ := List.mem_map.1 hu; rfl); rw [List.length_map] at h; exact h
      case cC => simp [maxLen]; omega
      case cD => simp; omega
      rintro sv1 w6 r1 k1 n1
      have k1' : Keeps (fun _ => False) w5 w6 := k1.mono fun b _ hb => by cases hb
      have n1' : ∀ b, sv1.ownBlock = Option.some b → w5.heap.size ≤ b := fun b hb => (n1 b hb).resolve_left (by intro h; cases h)
      have HK1 := Lib.hid k1'
      have HN1 := Lib.hid n1'
      have R1 := Lib.hid r1
      have RY6 := Lib.hid (RY.out.keeps k1' fun _ _ => id)
      clear k1 n1 k1' n1' r1 RX
      go_wp2_with (at_builtin; refine wpList_app_row rfl _ _ 30 30 rfl 9 i9 (.string ByteArray.empty) 16 Try.underlying30 hi9 hy0 hy1 hy2 rfl sv1 (xs.map strV) rfl R1.out _ ys.length (ys.map strV) rfl ?cB ?cC ?cD ?_)
      case cB => have h := RY6.out.src (P := Try.prog) Try.underlying30 (fun u hu => by obtain ⟨z, _, rfl⟩ := List.mem_map.1 hu; rfl); rw [List.length_map] at h; exact h
      case cC => simp [maxLen]; omega
      case cD => simp; omega
      rintro sv2 w7 r2 k2 n2
      rw [← List.map_append, HXY.out] at r2
      obtain ⟨av, ac, rfl⟩ := r2.val
      obtain ⟨zv, zc, rfl⟩ := RZ.out.val
      rw [List.length_map] at r2
      have hk7 : Keeps (fun _ => False) w5 w7 := HK1.out.trans' k2 fun i hi e => by have := HN1.out i e; omega
      have t7 := HTwo.out.step hk7
      have rz7 := RZ.out.keeps hk7 fun _ _ => id
      rw [List.length_map] at rz7
      have hl7 := two_len1 t7
      have hl8 := two_len2 t7
      have H7 := Lib.hid hl7
      have H8 := Lib.hid hl8
      have hl1 := HL1.out
      have y1 : IntKind.i64.wrap ((k : Int) - 1) = k - 1 := IntWalk.i64_in _ (by omega)
      have y2 : IntKind.i64.wrap ((k : Int) - 1 - us.length) = k - 1 - us.length := IntWalk.i64_in _ (by omega)
      have hl9 := two_len1 t7
      rw [show (R.length : Int) = (k : Int) - 1 - us.length by omega] at hl9
      have H9 := Lib.hid hl9
      have HA := Lib.hid r2
      have HZ := Lib.hid rz7
      have HKF := Lib.hid t7.keeps
      clear hl1 hl9 hl7 hl8 r2 rz7 t7 hk7 k2 n2 RY6 R1 HN1 HK1 RZ RY HTwo H17
      simp only [List.length_map]
      go_wp2_with fail
      refine H7.out.mono ?_; rintro e w8 ⟨rfl, rfl⟩
      go_wp2_with fail
      refine H8.out.mono ?_; rintro e w8 ⟨rfl, rfl⟩
      go_wp2_with fail
      refine H9.out.mono ?_; rintro e w8 ⟨rfl, rfl⟩
      clear H7 H8 H9
      go_wp2_with fail
      clear y1 y2
      go_loopw [21] (fun iv wr => ∃ j : Nat, iv = .int .i64 j ∧ j ≤ us.length ∧ Keeps (fun _ => False) w7 wr) (fun iv _ => us.length - (intOf iv).toNat)
      case atStart => exact ⟨0, rfl, by omega, Keeps.refl _ _⟩
      case round =>
        obtain ⟨j, rfl, hj, hkk⟩ := hrel
        have HA := Lib.hid (HA.out.keeps hkk fun _ _ => id)
        have HZ := Lib.hid (HZ.out.keeps hkk fun _ _ => id)
        have HKK := Lib.hid hkk
        clear hkk
        by_cases hju : j < us.length
        · have hju' : (j : Int) < us.length := by omega
          obtain ⟨b1, o1, c1, e1, g1, g2⟩ := HA.out.form (List.length_map ..) (by omega)
          simp only [Value.slice.injEq] at e1
          obtain ⟨rfl, _, rfl⟩ := e1
          obtain ⟨b2, o2, c2, e2, g3, g4⟩ := HZ.out.form (List.length_map ..) (by omega)
          simp only [Value.slice.injEq] at e2
          obtain ⟨rfl, _, rfl⟩ := e2
          obtain ⟨u, hu⟩ : ∃ u, us[j] = u := ⟨_, rfl⟩
          have hne : u ≠ strOfNums [97 + (s : Int)] := by
            rintro rfl
            have := HMem.out _ (hu ▸ List.getElem_mem hju)
            exact absurd (this.symm.trans HNo.out) (by simp)
          have q1 : wr.cell? ⟨b1, o1 + j, none⟩ = some (.string u) := by
            have := HA.out.cellAt (i := j) (by simpa using hju)
            rw [List.getElem_map, hu] at this; exact this
          have q2 : wr.cell? ⟨b2, o2 + j, none⟩ = some (.string u) := by
            have := HZ.out.cellAt (i := j) (by simpa using hju)
            rw [List.getElem_map, hu] at this; exact this
          have l1 := HA.out.lt rfl
          have l2 := HZ.out.lt rfl
          have hd : (u.toList == (strOfNums [97 + (s : Int)]).toList) = false := by rw [ByteArray.toList_eq, ByteArray.toList_eq, beq_eq_false_iff_ne]; intro h; exact hne (ByteArray.ext (Array.toList_inj.1 h))
          clear HMem HNo hu
          go_wp2_with (go_quiet (fail))
          go_roundw
          case rel => exact ⟨j + 1, by go_num, by omega, HKK.out.trans ((Keeps.refl _ _).drewN _)⟩
          case measure => simp [intOf]; omega
        · obtain rfl : j = us.length := by omega
          have hkf := HKF.out
          have hlt' : ¬ (us.length : Int) < us.length := by omega
          go_wp2
          go_ret
          exact ⟨rfl, HKF.out.trans HKK.out⟩
end Go.Proofs.Ytfecgibdhglhiaa
