/-
  TimerOrders's function returns true at every slice of bytes and every byte: timers fall due by their times, those of one time in the order in which they were set.
  Conditions: the slice is nil, or its cells may be read as bytes.
-/
import Derived.Test.YtfecgibdhglhiaaOrd
import Derived.Test.YtfecgibdhglhiaaDueWalk
import Derived.Deep.DeepCutAuto
import Derived.Deep.QuietTactic
import Derived.BigQuiet
import Derived.BigRegion
namespace Go.Proofs.Ytfecgibdhglhiaa
open Go.RowKit
theorem wp_app_row {P : Program} {w : World} {o : Oper} {a : Act} {K : Act → World → Prop} {Q : Exit → Act → World → Prop} (s x : Operand) (t tx : TypeId)
    (ho : o.op = .call { callee := .builtin .append, args := #[s, x], argTypes := #[t, tx] })
    (e : TypeId) (i : TypeInfo) (z : Value) (bytes : Nat) (ht : P.underlying t = some (.slice e)) (hi : P.info? e = some i) (hz : i.zero = some z)
    (hsize : i.size = 1) (hby : i.bytes = bytes) (hzs : z.cells.size = 1)
    (v : Value) (xs : List Value) (hs : a.eval s = v) (hown : RowAt w e v xs)
    (xv : Value) (m : Nat) (news : List Value) (hx : a.eval x = xv) (hsrc : Src P 1 tx xv m news w)
    (h63 : xs.length + m ≤ maxLen) (hbytes : (xs.length + m) * bytes ≤ 140737488355328)
    (h : ∀ v' w', RowAt w' e v' (xs ++ news) → Keeps (fun k => v.ownBlock = some k) w w' → (∀ k, v'.ownBlock = some k → v.ownBlock = some k ∨ w.heap.size ≤ k) → K (a.put o.dst v') w') : o.wp P a w K Q := by
  obtain ⟨v', w', hr, h2, h3, h4⟩ := run_app_row w t tx o.type e i z bytes ht hi hz hsize hby hzs v xs hown xv m news hsrc h63 hbytes
  unfold Oper.wp execOp
  simp only [ho, resolve, invoke, builtin, Sem.run_bind, Sem.run_pure, Result.andThen_ok, List.map_toArray, List.map_cons, List.map_nil, hs, hx, hr]
  exact h v' w' h2 h3 h4
theorem addr_add (b o i : Nat) (j : Nat) : (⟨b, o + i, none⟩ : Addr).add j = ⟨b, o + (i + j), none⟩ := by unfold Addr.add; split <;> simp_all [Nat.add_assoc]
theorem wantL_le (f : Nat → Int) (os : List Nat) : ∀ n, (wantL f os n).length ≤ n * os.length
  | 0 => by simp [wantL]
  | n + 1 => by
    rw [wantL_succ, List.length_append, List.length_map, Nat.succ_mul]
    have := wantL_le f os n
    have := List.length_filter_le (fun i => decide (f i = (n : Int))) os
    omega
theorem heap_alloc_new2 (w : World) (o1 o2 : Obj) : ((w.alloc o1).alloc o2).heap[w.heap.size + 1]? = some o2 := by have := heap_alloc_new (w.alloc o1) o2; simpa using this
def iV (n : Nat) : Value := .int .i64 n
theorem Try.info3 : (Try.prog.info? 3).map (fun i => (i.zero, i.size, i.bytes)) = some (some (.int .i64 0), 1, 8) := by kernel_rfl
def OLoop (w : World) (p : Nat) (lv : Value) (ll : List Value) (zs : List Int) (m : Nat) (iv ov : Value) (wr : World) : Prop :=
  ∃ k : Nat, iv = .int .i64 k ∧ k ≤ m ∧ OS w p (bytL zs 0 k) k lv ll ov ((List.range k).map iV) (.slice none 0 0) [] wr
set_option maxRecDepth 100000 in
set_option maxHeartbeats 4000000 in
theorem orders_some (x : Addr) (len c : Nat) (z0 : List Int) (a1 : Int) (w : World) (hlc : len ≤ c)
    (hz : ∀ i, 0 ≤ z0.getD i 0 ∧ z0.getD i 0 ≤ 255) (h1 : 0 ≤ a1 ∧ a1 ≤ 255)
    (hsrc : ∀ n W, n ≤ len → Keeps (fun _ => False) w W → Src Try.prog 1 22 (.slice (some x) n c) n ((z0.take n).map u8V) W) (hzl : len ≤ z0.length) :
    Calls Try.prog 3 #[.slice (some x) len c, .int .u8 a1] w fun e w' => e = .returned (.bool true) ∧ Keeps (fun _ => False) w w' := by
  obtain ⟨n, hn⟩ : ∃ n, min len 20 = n := ⟨_, rfl⟩
  have hn1 : n ≤ len := by omega
  have hn2 : n ≤ 20 := by omega
  have hmn : (if (20 : Int) < (len : Int) then (20 : Int) else len) = (n : Int) := by split <;> omega
  obtain ⟨i0, hi, hz0, hz1, hz2⟩ := info_parts Try.info5
  obtain ⟨i3, hi3, hx0, hx1, hx2⟩ := info_parts Try.info3
  obtain ⟨i9, hi9, hy0', hy1, hy2⟩ := info_parts Try.info9
  have HN := Lib.hid hn
  have HZ := Lib.hid hz
  have HS := Lib.hid (fun W => hsrc n W hn1)
  have HZL := Lib.hid hzl
  clear hz hn hsrc hzl
  go_enter Try.func3, Try.ntmps3
  go_wp2_with fail
  refine (examples_any w).mono ?_; rintro e w1 ⟨rfl, k1⟩
  have C0 := Lib.hid (newL w1)
  have K1 := Lib.hid k1
  clear k1
  go_wp2_with fail
  refine C0.out.mono ?_; rintro e w2 ⟨p, F0, rfl, h0, f0, k0⟩
  have k0' : Keeps (fun _ => False) w w2 := K1.out.trans k0
  have f0' : ∀ b, F0 b → w.heap.size ≤ b := fun b hb => Nat.le_trans K1.out.size (f0 b hb)
  have HT := Lib.hid h0
  have HF := Lib.hid f0'
  have HKp := Lib.hid k0'
  clear C0 k0' K1 h0 f0 f0' k0
  go_wp2_with (at_builtin; refine wpList_app_row rfl _ _ 22 22 rfl 5 i0 (.int .u8 0) 1 Try.underlying22 hi hz0 hz1 hz2 rfl _ [.int .u8 3] rfl ?cA _ n ((z0.take n).map u8V) rfl ?cB ?cC ?cD ?_)
  case cA => exact .inr ⟨w2.heap.size, 0, 1, #[.int .u8 3], rfl, heap_alloc_new _ _, by simp, by simp [maxLen], by simp, by simp⟩
  case cB => exact HS.out _ (HKp.out.alloc _)
  case cC => simp [maxLen]; omega
  case cD => simp; omega
  intro lv w3 hrow hk3 hb3
  obtain ⟨zs, hzs⟩ : ∃ zs, 3 :: z0.take n = zs := ⟨_, rfl⟩
  obtain ⟨m, hm⟩ : ∃ m, zs.length = m := ⟨_, rfl⟩
  have hmn1 : m = n + 1 := by rw [← hm, ← hzs, List.length_cons, List.length_take, Nat.min_eq_left (by have := HZL.out; omega)]
  have hbl : Value.int .u8 3 :: List.take n (List.map u8V z0) = zs.map u8V := by rw [← hzs, List.map_cons, List.map_take]; rfl
  rw [hbl] at hrow
  have hlen : (zs.map u8V).length = m := by rw [List.length_map, hm]
  obtain ⟨lb, lo, lc, rfl, hle, hlm⟩ := hrow.form hlen (by omega)
  have hlbn : w2.heap.size ≤ lb := by
    rcases hb3 lb rfl with h | h
    · first | omega | (simp [Value.ownBlock] at h; omega)
    · first | omega | (simp at h; omega)
  have hk4 : Keeps (fun _ => False) w2 w3 := ((Keeps.refl _ _).alloc _).trans' hk3 fun i hi e => by simp only [Value.ownBlock, Option.some.injEq] at e; omega
  obtain ⟨ys, hys⟩ : ∃ ys : List Int, zs.map (· % 8) = ys := ⟨_, rfl⟩
  have hyz : ∀ i, ys.getD i 0 = zs.getD i 0 % 8 := by
    intro i
    rw [← hys, List.getD_eq_getElem?_getD, List.getD_eq_getElem?_getD, List.getElem?_map]
    cases zs[i]? <;> simp
  have hd0 : OS w p (bytL ys 0 0) 0 (.slice (some ⟨lb, lo, none⟩) m lc) (zs.map u8V) (.slice none 0 0) ((List.range 0).map iV) (.slice none 0 0) [] w3 := by
    refine ⟨⟨F0, HT.out.keeps hk4 fun _ _ => id, fun b hb => ⟨HF.out b hb, fun e => ?_, nofun, nofun⟩⟩, hrow, RowAt.nil _ _, RowAt.nil _ _, nofun, nofun, HKp.out.trans hk4⟩
    simp only [Value.ownBlock, Option.some.injEq] at e
    have := HT.out.lt hb; omega
  have hzr : ∀ i, 0 ≤ zs.getD i 0 ∧ zs.getD i 0 ≤ 255 := by
    intro i
    rw [← hzs]
    cases i with
    | zero => simp
    | succ i =>
      have := HZ.out i
      rw [List.getD_cons_succ, List.getD_eq_getElem?_getD, List.getElem?_take]
      rw [List.getD_eq_getElem?_getD] at this
      split
      · exact this
      · simp
  obtain ⟨s, hs⟩ : ∃ s : Nat, a1 % (m : Int) = s := ⟨(a1 % (m : Int)).toNat, by have := Int.emod_nonneg a1 (show (m : Int) ≠ 0 by omega); omega⟩
  have hsm : s < m := by have := Int.emod_lt_of_pos a1 (show (0 : Int) < m by omega); omega
  have HD := Lib.hid hd0
  have HR := Lib.hid hzr
  have HM := Lib.hid hm
  have HML := Lib.hid hmn1
  have HY := Lib.hid hyz
  have hm20 : m ≤ 21 := by omega
  have hm0 : 1 ≤ m := by omega
  have HSS := Lib.hid hs
  clear hd0 hrow hk3 hb3 hk4 hzr hm hmn1 hbl hzs hlen HT HF HKp HS HZ HZL HN hlbn hn1 hn2 hmn hyz hys hs
  go_wp2_with fail
  go_loopw [8, 7] (fun iv ov wr => OLoop w p (.slice (some ⟨lb, lo, none⟩) m lc) (zs.map u8V) ys m iv ov wr) (fun iv _ _ => m - (intOf iv).toNat)
  case atStart => exact ⟨0, rfl, by omega, HD.out⟩
  case round =>
    clear HD
    obtain ⟨k, rfl, hkm, hd⟩ := hrel
    by_cases hlt : k < m
    · have hcv := conv1d
      have x1 : IntKind.i64.wrap (97 + (k : Int)) = 97 + k := IntWalk.i64_in _ (by omega)
      have x2 : IntKind.u8.wrap (97 + (k : Int)) = 97 + k := IntWalk.u8_in _ (by omega)
      have hkn' : (k : Int) < m := by omega
      obtain ⟨z, hz⟩ : ∃ z, zs.getD k 0 = z := ⟨_, rfl⟩
      obtain ⟨z0, z1⟩ := HR.out k
      rw [hz] at z0 z1
      have hy : ys.getD k 0 = z % 8 := by rw [HY.out k, hz]
      obtain ⟨y, hy'⟩ : ∃ y, z % 8 = y := ⟨_, rfl⟩
      have hy0 : 0 ≤ y ∧ y ≤ 7 := by omega
      rw [hy'] at hy
      rw [← Int.tmod_eq_emod_of_nonneg z0] at hy'
      have x3 : IntKind.u64.wrap y = y := IntWalk.u64_in _ (by omega)
      have hset : setL (bytL ys 0 k) (key1 k) y = bytL ys 0 (k + 1) := by rw [← bytL_setL (by omega), hy, Int.add_zero]
      have c1 : ∀ ov nv ol nl W, OS w p (bytL ys 0 k) k (.slice (some ⟨lb, lo, none⟩) m lc) (zs.map u8V) ov ol nv nl W → Calls Try.prog 10 #[.pointer (some ⟨p, 0, none⟩), .string (strOfNums [97 + (k : Int)]), .int .u64 y] W fun e w2 =>
          e = .returned (.int .i64 0) ∧ OS w p (bytL ys 0 (k + 1)) (k + 1) (.slice (some ⟨lb, lo, none⟩) m lc) (zs.map u8V) ov ol nv nl w2 := by
        intro ov nv ol nl W hW
        have := hW.set (by rw [bytL_length]; omega) (by omega) (key1 k) y
        rw [hset, bytL_setE (by omega)] at this
        exact this
      have C1 := Lib.hid c1
      have HD := Lib.hid hd
      have hbl : lb < wr.heap.size := hd.rl.lt rfl
      have hq : wr.cell? ⟨lb, lo + k, none⟩ = some (.int .u8 z) := by
        have hlen : (zs.map u8V).length = m := by rw [List.length_map, HM.out]
        rw [hd.rl.cellAt (by rw [hlen]; omega), List.getElem_map, ← hz]
        have hk' : k < zs.length := by rw [HM.out]; omega
        rw [List.getD_eq_getElem?_getD, List.getElem?_eq_getElem hk']; rfl
      clear c1 hset hz hd hy
      go_upto_region 12 with fail
      go_cut [47] (fun u47 wx => u47 = .bool false ∧ OS w p (bytL ys 0 (k + 1)) (k + 1) (.slice (some ⟨lb, lo, none⟩) m lc) (zs.map u8V) u7 ((List.range k).map iV) (.slice none 0 0) [] wx)
      case first =>
        go_region_with (go_at_call 10; refine (C1.out _ _ _ _ _ (HD.out.step ((Keeps.refl _ _).alloc _).drew)).mono ?_; rintro e w2 ⟨rfl, g1⟩)
        all_goals (go_wp2_with fail; go_meet; exact ⟨rfl, g1⟩)
      case rest =>
        obtain ⟨rfl, h2⟩ := hcut
        have HD := Lib.hid h2
        clear h2 C1
        go_wp2_with (at_builtin; refine wpList_app_row rfl _ _ 26 26 rfl 3 i3 (.int .i64 0) 8 Try.underlying26 hi3 hx0 hx1 hx2 rfl _ ((List.range k).map iV) rfl (HD.out.step ((Keeps.refl _ _).alloc _)).ro _ 1 [iV k] rfl ?cB ?cC ?cD ?_)
        case cB => exact RowAt.src (e := 3) (xs := [iV k]) Try.underlying26 (.inr ⟨_, 0, 1, #[iV k], rfl, heap_alloc_new _ _, by simp, by simp [maxLen], by simp, by simp⟩) (fun u hu => by simp only [List.mem_singleton] at hu; subst hu; rfl)
        case cC => simp [maxLen]; omega
        case cD => simp; omega
        intro ov' w5 r5 k5 n5
        have h5 := (HD.out.step ((Keeps.refl _ _).alloc _)).appO k5 r5 (by simpa using n5)
        rw [show (List.range k).map iV ++ [iV k] = (List.range (k + 1)).map iV by rw [List.range_succ, List.map_append]; rfl] at h5
        have HE := Lib.hid h5
        clear r5 k5 n5 h5 HD
        go_wp2
        go_roundw
        case rel => exact ⟨k + 1, by go_num, by omega, HE.out⟩
        case measure => simp [intOf]; omega
    · obtain rfl : k = m := by omega
      have hcv := conv1d
      have hlt' : ¬ (k : Int) < k := by omega
      have hdv : (k : Int) ≠ 0 := by omega
      have x1 : IntKind.i64.wrap (97 + (s : Int)) = 97 + s := IntWalk.i64_in _ (by omega)
      have x2 : IntKind.u8.wrap (97 + (s : Int)) = 97 + s := IntWalk.u8_in _ (by omega)
      have hsn' : (s : Int) < k := by omega
      obtain ⟨z, hz⟩ : ∃ z, zs.getD s 0 = z := ⟨_, rfl⟩
      obtain ⟨z0, z1⟩ := HR.out s
      rw [hz] at z0 z1
      have hy : ys.getD s 0 = z % 8 := by rw [HY.out s, hz]
      obtain ⟨y, hy'⟩ : ∃ y, z % 8 = y := ⟨_, rfl⟩
      have hy0 : 0 ≤ y ∧ y ≤ 7 := by omega
      rw [hy'] at hy
      rw [← Int.tmod_eq_emod_of_nonneg z0] at hy'
      have x3 : IntKind.u64.wrap y = y := IntWalk.u64_in _ (by omega)
      have c1 : ∀ ov nv ol nl W, OS w p (bytL ys 0 k) k (.slice (some ⟨lb, lo, none⟩) k lc) (zs.map u8V) ov ol nv nl W → Calls Try.prog 10 #[.pointer (some ⟨p, 0, none⟩), .string (strOfNums [97 + (s : Int)]), .int .u64 y] W fun e w2 =>
          e = .returned (.int .i64 0) ∧ OS w p ((ordL k s).map fun i => (key1 i, ys.getD i 0)) (k + 1) (.slice (some ⟨lb, lo, none⟩) k lc) (zs.map u8V) ov ol nv nl w2 := by
        intro ov nv ol nl W hW
        have := hW.set (by rw [bytL_length]; omega) (by omega) (key1 s) y
        rw [← hy, set_again ys hsm (by omega), setE_again ys hsm] at this
        rw [← hy]
        exact this
      have C1 := Lib.hid c1
      have HD := Lib.hid hd
      have hbl : lb < wr.heap.size := hd.rl.lt rfl
      have hq : wr.cell? ⟨lb, lo + s, none⟩ = some (.int .u8 z) := by
        have hlen : (zs.map u8V).length = k := by rw [List.length_map, HM.out]
        rw [hd.rl.cellAt (by rw [hlen]; omega), List.getElem_map, ← hz]
        have hk' : s < zs.length := by rw [HM.out]; omega
        rw [List.getD_eq_getElem?_getD, List.getElem?_eq_getElem hk']; rfl
      have hs := HSS.out
      clear c1 hz hd hy
      go_upto_region 16 with fail
      simp only [hs]
      clear hs
      go_cut [70] (fun u70 wx => u70 = .bool false ∧ OS w p ((ordL k s).map fun i => (key1 i, ys.getD i 0)) (k + 1) (.slice (some ⟨lb, lo, none⟩) k lc) (zs.map u8V) u7 ((List.range k).map iV) (.slice none 0 0) [] wx)
      case first =>
        go_region_with (go_at_call 10; refine (C1.out _ _ _ _ _ (HD.out.step ((Keeps.refl _ _).alloc _).drew)).mono ?_; rintro e w2 ⟨rfl, g1⟩)
        all_goals (go_wp2_with fail; go_meet; exact ⟨rfl, g1⟩)
      case rest =>
        obtain ⟨rfl, h2⟩ := hcut
        have HD := Lib.hid h2
        clear h2 C1 hq hbl x3 z0 z1 hy' hy0
        obtain ⟨ob, oo, oc, rfl, g1, g2⟩ := HD.out.ro.form (m := k) (by simp) (by omega)
        go_upto_region 18 with fail
        go_cut [7] (fun u7 wx => OS w p ((ordL k s).map fun i => (key1 i, ys.getD i 0)) (k + 1) (.slice (some ⟨lb, lo, none⟩) k lc) (zs.map u8V) u7 ((ordL k s).map iV) (.slice none 0 0) [] wx)
        case first =>
          have y1 : IntKind.i64.wrap ((s : Int) + 1) = s + 1 := IntWalk.i64_in _ (by omega)
          have y2 : (s : Int) ≤ oc := by omega
          have y3 : (s : Int) + 1 ≤ k := by omega
          have y4 : ((s : Int) + 1).toNat = s + 1 := by omega
          have y5 : s ≠ oc := by omega
          have y6 : ¬ ((s : Int) + 1 < 0) := by omega
          refine wp_region_any (by kernel_rfl) ?_
          change wpAny _ _ _ _ _ _ _ (World.drew _)
          refine wpAny_take (i := 0) (v := .slice (some ⟨ob, oo, none⟩) k oc) rfl (by kernel_rfl) (by kernel_rfl) (by kernel_rfl) (fun _ _ _ h => h) (Or.inl ⟨by rfl, by intro w; go_simp⟩) ?_
          refine wpAny_take (i := 1) (v := .int .i64 s) rfl (by kernel_rfl) (by kernel_rfl) (by kernel_rfl) (fun _ _ _ h => h) (Or.inl ⟨by rfl, by intro w; go_simp⟩) ?_
          refine wpAny_take (i := 2) (v := .slice (some ⟨ob, oo, none⟩) s oc) rfl (by kernel_rfl) (by kernel_rfl) (by kernel_rfl) (fun _ _ _ h => h) (Or.inl ⟨by rfl, ?_⟩) ?_
          · intro w; go_simp
          refine wpAny_take (i := 4) (v := .slice (some ⟨ob, oo, none⟩) k oc) rfl (by kernel_rfl) (by kernel_rfl) (by kernel_rfl) (fun _ _ _ h => h) (Or.inl ⟨by rfl, by intro w; go_simp⟩) ?_
          refine wpAny_take (i := 5) (v := .int .i64 s) rfl (by kernel_rfl) (by kernel_rfl) (by kernel_rfl) (fun _ _ _ h => h) (Or.inl ⟨by rfl, by intro w; go_simp⟩) ?_
          refine wpAny_take (i := 6) (v := .int .i64 (s + 1)) rfl (by kernel_rfl) (by kernel_rfl) (by kernel_rfl) (fun _ _ _ h => h) (Or.inl ⟨by rfl, by intro w; go_simp⟩) ?_
          refine wpAny_take (i := 7) (v := .slice (if oc = s + 1 then some ⟨ob, oo, none⟩ else some ⟨ob, oo + (s + 1), none⟩) (k - (s + 1)) (oc - (s + 1))) rfl (by kernel_rfl) (by kernel_rfl) (by kernel_rfl) (fun _ _ _ h => h) (Or.inl ⟨by rfl, ?_⟩) ?_
          · intro w; go_simp
          refine wpAny_take (i := 9) (v := .int .i64 s) rfl (by kernel_rfl) (by kernel_rfl) (by kernel_rfl) (fun _ _ _ h => h) (Or.inl ⟨by rfl, by intro w; go_simp⟩) ?_
          have q : Keeps (fun _ => False) wc wc.drew := (Keeps.refl _ _).drew
          have horder : [] ++ ((List.range k).take s).map iV ++ ((List.range k).drop (s + 1)).map iV ++ [iV s] = (ordL k s).map iV := by simp [ordL]
          have s1 : ∀ W, Keeps (fun _ => False) wc W → Src Try.prog 1 26 (.slice (Option.some ⟨ob, oo, none⟩) s oc) s (((List.range k).take s).map iV) W := by
            intro W hW
            have h := (HD.out.ro.keeps hW fun _ _ => id).take (k := s) (by simp; omega)
            rw [← List.map_take] at h
            have h := h.src (P := Try.prog) Try.underlying26 (fun u hu => by obtain ⟨z, _, rfl⟩ := List.mem_map.1 hu; rfl)
            rwa [List.length_map, List.length_take, List.length_range, Nat.min_eq_left (by omega)] at h
          have s2 : ∀ W, Keeps (fun _ => False) wc W → Src Try.prog 1 26 (.slice (if oc = s + 1 then Option.some ⟨ob, oo, none⟩ else Option.some ⟨ob, oo + (s + 1), none⟩) (k - (s + 1)) (oc - (s + 1))) (k - (s + 1)) (((List.range k).drop (s + 1)).map iV) W := by
            intro W hW
            have h := HD.out.ro.keeps hW fun _ _ => id
            split
            · have h0 : ((List.range k).drop (s + 1)) = [] := List.drop_eq_nil_iff.2 (by simp; omega)
              rw [h0, show k - (s + 1) = 0 by omega]
              exact Src.ofSlice _ Try.underlying26 _ _ _ _ rfl (by simp) (by simp)
            · refine Src.ofSlice _ Try.underlying26 _ _ _ _ (by simp) (fun j u hu => ?_) (fun u hu => by obtain ⟨z, _, rfl⟩ := List.mem_map.1 hu; rfl)
              obtain ⟨hj, e⟩ := List.getElem?_eq_some_iff.1 hu
              simp only [List.length_map, List.length_drop, List.length_range] at hj
              have hadd : (⟨ob, oo + (s + 1), none⟩ : Addr).add j = ⟨ob, oo + (s + 1 + j), none⟩ := addr_add ..
              rw [hadd, h.cellAt (by simp; omega), ← e]
              simp
          have S1 := Lib.hid s1
          have S2 := Lib.hid s2
          clear s1 s2
          have B1 := Lib.hid (show ([] : List Value).length + s ≤ 100 by simp; omega)
          have B2 := Lib.hid (show ([] ++ ((List.range k).take s).map iV).length + (k - (s + 1)) ≤ 100 by simp; omega)
          have B3 := Lib.hid (show ([] ++ ((List.range k).take s).map iV ++ ((List.range k).drop (s + 1)).map iV).length + 1 ≤ 100 by simp; omega)
          refine wpAny_ready (rs := [3, 10]) (by kernel_rfl) (by simp) ?_
          refine AllReady.cons rfl (fun K hK => ?_) (AllReady.cons rfl (fun K hK => ?_) AllReady.nil)
          · rw [if_pos (by rfl)]
            refine wp_app_row (.const (.slice none 0 0)) (.tmp 73) 26 26 rfl 3 i3 (.int .i64 0) 8 Try.underlying26 hi3 hx0 hx1 hx2 rfl (.slice none 0 0) [] (by go_simp) (RowAt.nil _ _) (.slice (Option.some ⟨ob, oo, none⟩) s oc) s (((List.range k).take s).map iV) (by go_simp) (S1.out _ q) (Nat.le_trans B1.out (by simp [maxLen])) (Nat.le_trans (Nat.mul_le_mul_right 8 B1.out) (by omega)) ?_
            intro v1 w1 r1 k1 n1
            refine hK _ _ ?_; clear hK K
            have e1 : ∀ b, v1.ownBlock = Option.some b → wc.heap.size ≤ b := fun b hb => (n1 b hb).elim (fun h => by cases h) (fun h => Nat.le_trans q.size h)
            have q := q.trans' k1 (fun _ _ h => by cases h)
            clear k1 n1
            refine wpAny_ready (rs := [8, 10]) (by kernel_rfl) (by simp) ?_
            refine AllReady.cons rfl (fun K hK => ?_) (AllReady.cons rfl (fun K hK => ?_) AllReady.nil)
            · rw [if_pos (by rfl)]
              refine wp_app_row (.tmp 74) (.tmp 78) 26 26 rfl 3 i3 (.int .i64 0) 8 Try.underlying26 hi3 hx0 hx1 hx2 rfl v1 ([] ++ ((List.range k).take s).map iV) (by go_simp) r1 (.slice (if oc = s + 1 then Option.some ⟨ob, oo, none⟩ else Option.some ⟨ob, oo + (s + 1), none⟩) (k - (s + 1)) (oc - (s + 1))) (k - (s + 1)) (((List.range k).drop (s + 1)).map iV) (by go_simp) (S2.out _ q) (Nat.le_trans B2.out (by simp [maxLen])) (Nat.le_trans (Nat.mul_le_mul_right 8 B2.out) (by omega)) ?_
              intro v2 w2 r2 k2 n2
              refine hK _ _ ?_; clear hK K
              have e2 : ∀ b, v2.ownBlock = Option.some b → wc.heap.size ≤ b := fun b hb => (n2 b hb).elim (e1 b) (fun h => Nat.le_trans q.size h)
              have q := q.trans' k2 (fun i hi e => by have := e1 i e; omega)
              clear k2 n2 r1
              refine wpAny_ready (rs := [10]) (by kernel_rfl) (by simp) ?_
              refine AllReady.cons rfl (fun K hK => ?_) AllReady.nil
              go_simp
              refine hK _ _ ?_; clear hK K
              obtain ⟨bv, hbv, rb⟩ : ∃ bv, bv = Value.slice (Option.some ⟨w2.heap.size, 0, none⟩) 1 1 ∧ RowAt (w2.alloc (.cells #[.int .i64 s] 3)) 3 bv [iV s] := ⟨_, rfl, .inr ⟨_, 0, 1, #[iV s], rfl, heap_alloc_new _ _, by simp, by simp [maxLen], by simp, by simp⟩⟩
              rw [← hbv]
              have r2 := r2.keeps (F := fun _ => False) ((Keeps.refl _ _).alloc (.cells #[.int .i64 s] 3)) (fun _ _ => id)
              have q := q.alloc (.cells #[.int .i64 s] 3)
              clear hbv
              refine wpAny_ready (rs := [11]) (by kernel_rfl) (by simp) ?_
              refine AllReady.cons rfl (fun K hK => ?_) AllReady.nil
              rw [if_pos (by rfl)]
              refine wp_app_row (.tmp 79) (.tmp 81) 26 26 rfl 3 i3 (.int .i64 0) 8 Try.underlying26 hi3 hx0 hx1 hx2 rfl v2 ([] ++ ((List.range k).take s).map iV ++ ((List.range k).drop (s + 1)).map iV) (by go_simp) r2 bv 1 [iV s] (by go_simp) (RowAt.src (xs := [iV s]) Try.underlying26 rb (fun u hu => by simp only [List.mem_singleton] at hu; subst hu; rfl)) (Nat.le_trans B3.out (by simp [maxLen])) (Nat.le_trans (Nat.mul_le_mul_right 8 B3.out) (by omega)) ?_
              intro v3 w3 r3 k3 n3
              refine hK _ _ ?_; clear hK K
              have e3 : ∀ b, v3.ownBlock = Option.some b → wc.heap.size ≤ b := fun b hb => (n3 b hb).elim (e2 b) (fun h => Nat.le_trans q.size h)
              have q := q.trans' k3 (fun i hi e => by have := e2 i e; omega)
              have HE := Lib.hid (HD.out.newO q r3 e3)
              rw [horder] at HE
              clear k3 n3 r3 e3 e2 e1 q r2 rb
              refine wpAny_take (i := 12) (v := v3) rfl (by kernel_rfl) (by kernel_rfl) (by kernel_rfl) (fun _ _ _ h => h) (Or.inl ⟨by rfl, by intro w; go_simp⟩) ?_
              refine wpAny_done (by kernel_rfl) ?_ _
              go_wp2_with fail
              all_goals (go_meet; exact HE.out)
            · go_simp
              refine hK _ _ ?_; clear hK K
              obtain ⟨bv, hbv, rb⟩ : ∃ bv, bv = Value.slice (Option.some ⟨w1.heap.size, 0, none⟩) 1 1 ∧ RowAt (w1.alloc (.cells #[.int .i64 s] 3)) 3 bv [iV s] := ⟨_, rfl, .inr ⟨_, 0, 1, #[iV s], rfl, heap_alloc_new _ _, by simp, by simp [maxLen], by simp, by simp⟩⟩
              rw [← hbv]
              have nb : ∀ b, v1.ownBlock = Option.some b → bv.ownBlock ≠ Option.some b := fun b hb hx => by have h5 := r1.lt hb; rw [hbv] at hx; simp only [Value.ownBlock, Option.some.injEq] at hx; omega
              have r1 := r1.keeps (F := fun _ => False) ((Keeps.refl _ _).alloc (.cells #[.int .i64 s] 3)) (fun _ _ => id)
              have q := q.alloc (.cells #[.int .i64 s] 3)
              clear hbv
              refine wpAny_ready (rs := [8]) (by kernel_rfl) (by simp) ?_
              refine AllReady.cons rfl (fun K hK => ?_) AllReady.nil
              rw [if_pos (by rfl)]
              refine wp_app_row (.tmp 74) (.tmp 78) 26 26 rfl 3 i3 (.int .i64 0) 8 Try.underlying26 hi3 hx0 hx1 hx2 rfl v1 ([] ++ ((List.range k).take s).map iV) (by go_simp) r1 (.slice (if oc = s + 1 then Option.some ⟨ob, oo, none⟩ else Option.some ⟨ob, oo + (s + 1), none⟩) (k - (s + 1)) (oc - (s + 1))) (k - (s + 1)) (((List.range k).drop (s + 1)).map iV) (by go_simp) (S2.out _ q) (Nat.le_trans B2.out (by simp [maxLen])) (Nat.le_trans (Nat.mul_le_mul_right 8 B2.out) (by omega)) ?_
              intro v2 w2 r2 k2 n2
              refine hK _ _ ?_; clear hK K
              have e2 : ∀ b, v2.ownBlock = Option.some b → wc.heap.size ≤ b := fun b hb => (n2 b hb).elim (e1 b) (fun h => Nat.le_trans q.size h)
              have rb := rb.keeps k2 (fun b hb hv => nb b hv hb)
              have q := q.trans' k2 (fun i hi e => by have := e1 i e; omega)
              clear k2 n2 r1
              refine wpAny_ready (rs := [11]) (by kernel_rfl) (by simp) ?_
              refine AllReady.cons rfl (fun K hK => ?_) AllReady.nil
              rw [if_pos (by rfl)]
              refine wp_app_row (.tmp 79) (.tmp 81) 26 26 rfl 3 i3 (.int .i64 0) 8 Try.underlying26 hi3 hx0 hx1 hx2 rfl v2 ([] ++ ((List.range k).take s).map iV ++ ((List.range k).drop (s + 1)).map iV) (by go_simp) r2 bv 1 [iV s] (by go_simp) (RowAt.src (xs := [iV s]) Try.underlying26 rb (fun u hu => by simp only [List.mem_singleton] at hu; subst hu; rfl)) (Nat.le_trans B3.out (by simp [maxLen])) (Nat.le_trans (Nat.mul_le_mul_right 8 B3.out) (by omega)) ?_
              intro v3 w3 r3 k3 n3
              refine hK _ _ ?_; clear hK K
              have e3 : ∀ b, v3.ownBlock = Option.some b → wc.heap.size ≤ b := fun b hb => (n3 b hb).elim (e2 b) (fun h => Nat.le_trans q.size h)
              have q := q.trans' k3 (fun i hi e => by have := e2 i e; omega)
              have HE := Lib.hid (HD.out.newO q r3 e3)
              rw [horder] at HE
              clear k3 n3 r3 e3 e2 e1 q r2 rb
              refine wpAny_take (i := 12) (v := v3) rfl (by kernel_rfl) (by kernel_rfl) (by kernel_rfl) (fun _ _ _ h => h) (Or.inl ⟨by rfl, by intro w; go_simp⟩) ?_
              refine wpAny_done (by kernel_rfl) ?_ _
              go_wp2_with fail
              all_goals (go_meet; exact HE.out)
          · go_simp
            refine hK _ _ ?_; clear hK K
            obtain ⟨bv, hbv, rb⟩ : ∃ bv, bv = Value.slice (Option.some ⟨wc.heap.size, 0, none⟩) 1 1 ∧ RowAt (wc.drew.alloc (.cells #[.int .i64 s] 3)) 3 bv [iV s] := ⟨_, rfl, .inr ⟨_, 0, 1, #[iV s], rfl, heap_alloc_new _ _, by simp, by simp [maxLen], by simp, by simp⟩⟩
            rw [← hbv]
            have q := q.alloc (.cells #[.int .i64 s] 3)
            clear hbv
            refine wpAny_ready (rs := [3]) (by kernel_rfl) (by simp) ?_
            refine AllReady.cons rfl (fun K hK => ?_) AllReady.nil
            rw [if_pos (by rfl)]
            refine wp_app_row (.const (.slice none 0 0)) (.tmp 73) 26 26 rfl 3 i3 (.int .i64 0) 8 Try.underlying26 hi3 hx0 hx1 hx2 rfl (.slice none 0 0) [] (by go_simp) (RowAt.nil _ _) (.slice (Option.some ⟨ob, oo, none⟩) s oc) s (((List.range k).take s).map iV) (by go_simp) (S1.out _ q) (Nat.le_trans B1.out (by simp [maxLen])) (Nat.le_trans (Nat.mul_le_mul_right 8 B1.out) (by omega)) ?_
            intro v1 w1 r1 k1 n1
            refine hK _ _ ?_; clear hK K
            have e1 : ∀ b, v1.ownBlock = Option.some b → wc.heap.size ≤ b := fun b hb => (n1 b hb).elim (fun h => by cases h) (fun h => Nat.le_trans q.size h)
            have nb : ∀ b, v1.ownBlock = Option.some b → bv.ownBlock ≠ Option.some b := fun b hb hx => by have h5 := rb.lt hx; rcases n1 b hb with h | h; cases h; first | omega | (simp at h h5; omega)
            have rb := rb.keeps k1 (fun _ _ h => by cases h)
            have q := q.trans' k1 (fun _ _ h => by cases h)
            clear k1 n1
            refine wpAny_ready (rs := [8]) (by kernel_rfl) (by simp) ?_
            refine AllReady.cons rfl (fun K hK => ?_) AllReady.nil
            rw [if_pos (by rfl)]
            refine wp_app_row (.tmp 74) (.tmp 78) 26 26 rfl 3 i3 (.int .i64 0) 8 Try.underlying26 hi3 hx0 hx1 hx2 rfl v1 ([] ++ ((List.range k).take s).map iV) (by go_simp) r1 (.slice (if oc = s + 1 then Option.some ⟨ob, oo, none⟩ else Option.some ⟨ob, oo + (s + 1), none⟩) (k - (s + 1)) (oc - (s + 1))) (k - (s + 1)) (((List.range k).drop (s + 1)).map iV) (by go_simp) (S2.out _ q) (Nat.le_trans B2.out (by simp [maxLen])) (Nat.le_trans (Nat.mul_le_mul_right 8 B2.out) (by omega)) ?_
            intro v2 w2 r2 k2 n2
            refine hK _ _ ?_; clear hK K
            have e2 : ∀ b, v2.ownBlock = Option.some b → wc.heap.size ≤ b := fun b hb => (n2 b hb).elim (e1 b) (fun h => Nat.le_trans q.size h)
            have rb := rb.keeps k2 (fun b hb hv => nb b hv hb)
            have q := q.trans' k2 (fun i hi e => by have := e1 i e; omega)
            clear k2 n2 r1
            refine wpAny_ready (rs := [11]) (by kernel_rfl) (by simp) ?_
            refine AllReady.cons rfl (fun K hK => ?_) AllReady.nil
            rw [if_pos (by rfl)]
            refine wp_app_row (.tmp 79) (.tmp 81) 26 26 rfl 3 i3 (.int .i64 0) 8 Try.underlying26 hi3 hx0 hx1 hx2 rfl v2 ([] ++ ((List.range k).take s).map iV ++ ((List.range k).drop (s + 1)).map iV) (by go_simp) r2 bv 1 [iV s] (by go_simp) (RowAt.src (xs := [iV s]) Try.underlying26 rb (fun u hu => by simp only [List.mem_singleton] at hu; subst hu; rfl)) (Nat.le_trans B3.out (by simp [maxLen])) (Nat.le_trans (Nat.mul_le_mul_right 8 B3.out) (by omega)) ?_
            intro v3 w3 r3 k3 n3
            refine hK _ _ ?_; clear hK K
            have e3 : ∀ b, v3.ownBlock = Option.some b → wc.heap.size ≤ b := fun b hb => (n3 b hb).elim (e2 b) (fun h => Nat.le_trans q.size h)
            have q := q.trans' k3 (fun i hi e => by have := e2 i e; omega)
            have HE := Lib.hid (HD.out.newO q r3 e3)
            rw [horder] at HE
            clear k3 n3 r3 e3 e2 e1 q r2 rb
            refine wpAny_take (i := 12) (v := v3) rfl (by kernel_rfl) (by kernel_rfl) (by kernel_rfl) (fun _ _ _ h => h) (Or.inl ⟨by rfl, by intro w; go_simp⟩) ?_
            refine wpAny_done (by kernel_rfl) ?_ _
            go_wp2_with fail
            all_goals (go_meet; exact HE.out)
        case rest =>
          have HD := Lib.hid hcut
          clear hcut hdv x1 x2 hsn' g1 g2 hcv
          obtain ⟨os, hos⟩ : ∃ os, ordL k s = os := ⟨_, rfl⟩
          have hol : os.length = k := by rw [← hos]; exact ordL_length hsm
          have hot : ∀ i (hi : i < os.length), os[i] < k := fun i hi => ordL_lt hsm (hos ▸ List.getElem_mem hi)
          have hdue := due_seven ys hsm (by omega) (fun i => by rw [HY.out i]; have := HR.out i; omega)
          obtain ⟨f, hf⟩ : ∃ f : Nat → Int, (fun i => ys.getD i 0) = f := ⟨_, rfl⟩
          have hfe : ∀ i, ys.getD i 0 = f i := fun i => congrFun hf i
          rw [hos] at hdue HD
          simp only [hfe] at hdue HD
          have HY := Lib.hid (show ∀ i, f i = zs.getD i 0 % 8 from fun i => (hfe i).symm.trans (HY.out i))
          clear hf hfe
          have HDue := Lib.hid hdue
          have HOT := Lib.hid hot
          have HOL := Lib.hid hol
          clear hdue hos hot hol
          obtain ⟨ob2, oo2, oc2, rfl, g1, g2⟩ := HD.out.ro.form (m := k) (by rw [List.length_map, HOL.out]) (by omega)
          go_wp2_with fail
          clear hlt'
          go_loopw [11, 10] (fun av nv wr => ∃ a : Nat, av = .int .i64 a ∧ a ≤ 8 ∧ OS w p (os.map fun i => (key1 i, f i)) (k + 1) (.slice (some ⟨lb, lo, none⟩) k lc) (zs.map u8V) (.slice (some ⟨ob2, oo2, none⟩) k oc2) (os.map iV) nv ((wantL f os a).map strV) wr) (fun av _ _ => 8 - (intOf av).toNat)
          case atStart => exact ⟨0, rfl, by omega, HD.out⟩
          case round =>
            clear HD
            obtain ⟨a, rfl, ha8, hd⟩ := hrel
            have HD := Lib.hid hd
            clear hd
            by_cases ha : a < 8
            · have ha' : (a : Int) < 8 := by omega
              go_wp2_with fail
              clear ha'
              go_loopw [12, 10] (fun iv nv wr => ∃ i : Nat, iv = .int .i64 i ∧ i ≤ k ∧ OS w p (os.map fun i => (key1 i, f i)) (k + 1) (.slice (some ⟨lb, lo, none⟩) k lc) (zs.map u8V) (.slice (some ⟨ob2, oo2, none⟩) k oc2) (os.map iV) nv ((wantL f os a ++ ((os.take i).filter fun i => decide (f i = (a : Int))).map key1).map strV) wr) (fun iv _ _ => k - (intOf iv).toNat)
              case atStart => exact ⟨0, rfl, by omega, by simpa using HD.out⟩
              case round =>
                clear HD
                obtain ⟨i, rfl, hik, hd⟩ := hrel
                have HD := Lib.hid hd
                clear hd
                by_cases hi : i < k
                · have hi' : (i : Int) < k := by omega
                  have hio : i < os.length := by rw [HOL.out]; exact hi
                  obtain ⟨t, ht⟩ : ∃ t, os[i] = t := ⟨_, rfl⟩
                  have htk : t < k := by rw [← ht]; exact HOT.out i hio
                  have htk' : (t : Int) < k := by omega
                  obtain ⟨z, hz⟩ : ∃ z, zs.getD t 0 = z := ⟨_, rfl⟩
                  obtain ⟨z0, z1⟩ := HR.out t
                  rw [hz] at z0 z1
                  have hy : f t = z % 8 := by rw [HY.out t, hz]
                  obtain ⟨y, hy'⟩ : ∃ y, z % 8 = y := ⟨_, rfl⟩
                  have hy0 : 0 ≤ y ∧ y ≤ 7 := by omega
                  rw [hy'] at hy
                  rw [← Int.tmod_eq_emod_of_nonneg z0] at hy'
                  have x3 : IntKind.i64.wrap y = y := IntWalk.i64_in _ (by omega)
                  have hbl : lb < wr.heap.size := HD.out.rl.lt rfl
                  have hol : ob2 < wr.heap.size := HD.out.ro.lt rfl
                  have hq1 : wr.cell? ⟨ob2, oo2 + i, none⟩ = some (.int .i64 t) := by
                    rw [HD.out.ro.cellAt (by simpa using hio), List.getElem_map, ht]; rfl
                  have hq2 : wr.cell? ⟨lb, lo + t, none⟩ = some (.int .u8 z) := by
                    have hlen : (zs.map u8V).length = k := by rw [List.length_map, HM.out]
                    rw [HD.out.rl.cellAt (by rw [hlen]; omega), List.getElem_map, ← hz]
                    have hk' : t < zs.length := by rw [HM.out]; omega
                    rw [List.getD_eq_getElem?_getD, List.getElem?_eq_getElem hk']; rfl
                  have hfil : (os.take (i + 1)).filter (fun i => decide (f i = (a : Int))) = (os.take i).filter (fun i => decide (f i = (a : Int))) ++ (if y = a then [t] else []) := by
                    rw [List.take_succ_eq_append_getElem hio, List.filter_append, ht]
                    by_cases hya : y = a <;> simp [hy, hya]
                  have HFil := Lib.hid hfil
                  clear ht hz hy hfil
                  by_cases hya : y = a
                  · rw [if_pos hya] at HFil
                    have hcv := conv1
                    have x1 : IntKind.i64.wrap (97 + (t : Int)) = 97 + t := IntWalk.i64_in _ (by omega)
                    have x2 : IntKind.u8.wrap (97 + (t : Int)) = 97 + t := IntWalk.u8_in _ (by omega)
                    subst hya
                    have hxl : (((wantL f os a ++ ((os.take i).filter fun i => decide (f i = (a : Int))).map key1).map strV)).length + 1 ≤ 1000 := by
                      rw [List.length_map, List.length_append, List.length_map]
                      have h1 := wantL_le f os a
                      have h2 := List.length_filter_le (fun i => decide (f i = (a : Int))) (os.take i)
                      rw [List.length_take] at h2
                      have h3 : a * os.length ≤ 8 * 21 := Nat.mul_le_mul ha8 (by rw [HOL.out]; exact hm20)
                      omega
                    have hdn := HD.out
                    obtain ⟨X, hX⟩ : ∃ X, (wantL f os a ++ ((os.take i).filter fun i => decide (f i = (a : Int))).map key1).map strV = X := ⟨_, rfl⟩
                    have hX2 : X ++ [strV (key1 t)] = (wantL f os a ++ ((os.take (i + 1)).filter fun i => decide (f i = (a : Int))).map key1).map strV := by rw [HFil.out, ← hX]; simp
                    rw [hX] at hxl hdn
                    have HXL := Lib.hid hxl
                    have HX2 := Lib.hid hX2
                    have HD := Lib.hid hdn
                    clear hxl hX hX2 hdn
                    go_wp2_with (at_builtin; refine wpList_app_row rfl _ _ 30 30 rfl 9 i9 (.string ByteArray.empty) 16 Try.underlying30 hi9 hy0' hy1 hy2 rfl _ X rfl (HD.out.step (((Keeps.refl _ _).alloc _).alloc _)).rn _ 1 [strV (key1 t)] rfl ?cB (Nat.le_trans HXL.out (by simp [maxLen])) (Nat.le_trans (Nat.mul_le_mul_right 16 HXL.out) (by omega)) ?_)
                    case cB => exact RowAt.src (e := 9) (xs := [strV (key1 t)]) Try.underlying30 (.inr ⟨_, 0, 1, #[strV (key1 t)], rfl, heap_alloc_new2 _ _ _, by simp, by simp [maxLen], by simp, by simp⟩) (fun u hu => by simp only [List.mem_singleton] at hu; subst hu; rfl)
                    intro nv' w5 r5 k5 n5
                    have h5 := (HD.out.step (((Keeps.refl _ _).alloc _).alloc _)).appN k5 (HX2.out ▸ r5) (by simpa using n5)
                    have HE := Lib.hid h5
                    clear r5 k5 n5 h5 HD HFil HXL HX2
                    go_wp2
                    go_roundw
                    case rel => exact ⟨i + 1, by go_num, by omega, HE.out⟩
                    case measure => simp [intOf]; omega
                  · rw [if_neg hya] at HFil
                    have HFil := HFil.out
                    rw [List.append_nil] at HFil
                    have HFil := Lib.hid HFil
                    go_wp2
                    go_roundw
                    case rel => exact ⟨i + 1, by go_num, by omega, by rw [HFil.out]; exact HD.out⟩
                    case measure => simp [intOf]; omega
                · obtain rfl : i = k := by omega
                  have hi' : ¬ (i : Int) < i := by omega
                  have hend := HD.out
                  rw [← HOL.out, List.take_length, ← wantL_succ f os a] at hend
                  rw [HOL.out] at hend
                  have HE := Lib.hid hend
                  clear hend HD
                  go_wp2
                  go_roundw
                  case rel => exact ⟨a + 1, by go_num, by omega, HE.out⟩
                  case measure => simp [intOf]; omega
            · obtain rfl : a = 8 := by omega
              have hlt8 : ¬ ((8 : Nat) : Int) < 8 := by omega
              have cd := HD.out.due (by rw [List.length_map, HOL.out]; omega) 7
              obtain ⟨U, hU⟩ : ∃ U, wantL f os 8 = U := ⟨_, rfl⟩
              have hUl : U.length ≤ 168 := by rw [← hU]; have h1 := wantL_le f os 8; have h2 := HOL.out; omega
              have hdue := HDue.out
              rw [hdue.1, hdue.2, hU] at cd
              have CD := Lib.hid cd
              clear hdue HDue cd hU HD
              go_wp2_with fail
              refine CD.out.mono ?_; rintro e w5 ⟨sv, rfl, r5, h5⟩
              obtain ⟨gv, gc, rfl⟩ := r5.val
              obtain ⟨nv, nc, rfl⟩ := h5.rn.val
              rw [List.length_map] at r5 h5
              have H5 := Lib.hid h5
              have R5 := Lib.hid r5
              have CL := Lib.hid h5.len
              clear h5 r5 CD
              simp only [List.length_map]
              go_wp2_with fail
              refine CL.out.mono ?_; rintro e w6 ⟨rfl, rfl⟩
              clear CL
              go_wp2_with fail
              go_loopw [14] (fun iv wr => ∃ j : Nat, iv = .int .i64 j ∧ j ≤ U.length ∧ Keeps (fun _ => False) w5 wr) (fun iv _ => U.length - (intOf iv).toNat)
              case atStart => exact ⟨0, rfl, by omega, Keeps.refl _ _⟩
              case round =>
                obtain ⟨j, rfl, hj, hkk⟩ := hrel
                have HA := Lib.hid (R5.out.keeps hkk fun _ _ => id)
                have HZ := Lib.hid (H5.out.rn.keeps hkk fun _ _ => id)
                have HKK := Lib.hid hkk
                clear hkk
                by_cases hju : j < U.length
                · have hju' : (j : Int) < U.length := by omega
                  obtain ⟨b1, o1, c1, e1, g1, g2⟩ := HA.out.form (List.length_map ..) (by omega)
                  simp only [Value.slice.injEq] at e1
                  obtain ⟨rfl, _, rfl⟩ := e1
                  obtain ⟨b2, o2, c2, e2, g3, g4⟩ := HZ.out.form (List.length_map ..) (by omega)
                  simp only [Value.slice.injEq] at e2
                  obtain ⟨rfl, _, rfl⟩ := e2
                  obtain ⟨u, hu⟩ : ∃ u, U[j] = u := ⟨_, rfl⟩
                  have q1 : wr.cell? ⟨b1, o1 + j, none⟩ = some (.string u) := by
                    have := HA.out.cellAt (i := j) (by simpa using hju)
                    rw [List.getElem_map, hu] at this; exact this
                  have q2 : wr.cell? ⟨b2, o2 + j, none⟩ = some (.string u) := by
                    have := HZ.out.cellAt (i := j) (by simpa using hju)
                    rw [List.getElem_map, hu] at this; exact this
                  have l1 := HA.out.lt rfl
                  have l2 := HZ.out.lt rfl
                  clear hu
                  go_wp2_with (go_quiet (fail))
                  go_roundw
                  case rel => exact ⟨j + 1, by go_num, by omega, HKK.out.trans ((Keeps.refl _ _).drewN _)⟩
                  case measure => simp [intOf]; omega
                · obtain rfl : j = U.length := by omega
                  have hlt' : ¬ (U.length : Int) < U.length := by omega
                  go_wp2
                  go_ret
                  exact ⟨rfl, H5.out.keeps.trans HKK.out⟩
set_option maxRecDepth 100000 in
set_option maxHeartbeats 4000000 in
theorem orders_nil (a1 : Int) (w : World) (h1 : 0 ≤ a1 ∧ a1 ≤ 255) :
    Calls Try.prog 3 #[.slice none 0 0, .int .u8 a1] w fun e w' => e = .returned (.bool true) ∧ Keeps (fun _ => False) w w' := by
  obtain ⟨i0, hi, hz0, hz1, hz2⟩ := info_parts Try.info5
  obtain ⟨i3, hi3, hx0, hx1, hx2⟩ := info_parts Try.info3
  obtain ⟨i9, hi9, hy0', hy1, hy2⟩ := info_parts Try.info9
  go_enter Try.func3, Try.ntmps3
  go_wp2_with fail
  refine (examples_any w).mono ?_; rintro e w1 ⟨rfl, k1⟩
  have C0 := Lib.hid (newL w1)
  have K1 := Lib.hid k1
  clear k1
  go_wp2_with fail
  refine C0.out.mono ?_; rintro e w2 ⟨p, F0, rfl, h0, f0, k0⟩
  have k0' : Keeps (fun _ => False) w w2 := K1.out.trans k0
  have f0' : ∀ b, F0 b → w.heap.size ≤ b := fun b hb => Nat.le_trans K1.out.size (f0 b hb)
  have HT := Lib.hid h0
  have HF := Lib.hid f0'
  have HKp := Lib.hid k0'
  clear C0 k0' K1 h0 f0 f0' k0
  go_wp2_with (at_builtin; refine wpList_app_row rfl _ _ 22 22 rfl 5 i0 (.int .u8 0) 1 Try.underlying22 hi hz0 hz1 hz2 rfl _ [.int .u8 3] rfl ?cA _ 0 [] rfl ?cB ?cC ?cD ?_)
  case cA => exact .inr ⟨w2.heap.size, 0, 1, #[.int .u8 3], rfl, heap_alloc_new _ _, by simp, by simp [maxLen], by simp, by simp⟩
  case cB => exact Src.ofNil _ Try.underlying22 0
  case cC => simp [maxLen]
  case cD => simp
  intro lv w3 hrow hk3 hb3
  obtain ⟨zs, hzs⟩ : ∃ zs, [(3 : Int)] = zs := ⟨_, rfl⟩
  obtain ⟨m, hm⟩ : ∃ m, zs.length = m := ⟨_, rfl⟩
  have hmn1 : m = 1 := by rw [← hm, ← hzs]; rfl
  have hbl : [Value.int .u8 3] ++ [] = zs.map u8V := by rw [← hzs]; rfl
  change RowAt w3 5 lv ([Value.int .u8 3] ++ []) at hrow
  rw [hbl] at hrow
  have hlen : (zs.map u8V).length = m := by rw [List.length_map, hm]
  obtain ⟨lb, lo, lc, rfl, hle, hlm⟩ := hrow.form hlen (by omega)
  have hlbn : w2.heap.size ≤ lb := by
    rcases hb3 lb rfl with h | h
    · first | omega | (simp [Value.ownBlock] at h; omega)
    · first | omega | (simp at h; omega)
  have hk4 : Keeps (fun _ => False) w2 w3 := ((Keeps.refl _ _).alloc _).trans' hk3 fun i hi e => by simp only [Value.ownBlock, Option.some.injEq] at e; omega
  obtain ⟨ys, hys⟩ : ∃ ys : List Int, zs.map (· % 8) = ys := ⟨_, rfl⟩
  have hyz : ∀ i, ys.getD i 0 = zs.getD i 0 % 8 := by
    intro i
    rw [← hys, List.getD_eq_getElem?_getD, List.getD_eq_getElem?_getD, List.getElem?_map]
    cases zs[i]? <;> simp
  have hd0 : OS w p (bytL ys 0 0) 0 (.slice (some ⟨lb, lo, none⟩) m lc) (zs.map u8V) (.slice none 0 0) ((List.range 0).map iV) (.slice none 0 0) [] w3 := by
    refine ⟨⟨F0, HT.out.keeps hk4 fun _ _ => id, fun b hb => ⟨HF.out b hb, fun e => ?_, nofun, nofun⟩⟩, hrow, RowAt.nil _ _, RowAt.nil _ _, nofun, nofun, HKp.out.trans hk4⟩
    simp only [Value.ownBlock, Option.some.injEq] at e
    have := HT.out.lt hb; omega
  have hzr : ∀ i, 0 ≤ zs.getD i 0 ∧ zs.getD i 0 ≤ 255 := by
    intro i
    rw [← hzs]
    cases i <;> simp
  obtain ⟨s, hs⟩ : ∃ s : Nat, a1 % (m : Int) = s := ⟨(a1 % (m : Int)).toNat, by have := Int.emod_nonneg a1 (show (m : Int) ≠ 0 by omega); omega⟩
  have hsm : s < m := by have := Int.emod_lt_of_pos a1 (show (0 : Int) < m by omega); omega
  have HD := Lib.hid hd0
  have HR := Lib.hid hzr
  have HM := Lib.hid hm
  have HML := Lib.hid hmn1
  have HY := Lib.hid hyz
  have hm20 : m ≤ 21 := by omega
  have hm0 : 1 ≤ m := by omega
  have HSS := Lib.hid hs
  clear hd0 hrow hk3 hb3 hk4 hzr hm hmn1 hbl hzs hlen HT HF HKp hlbn hyz hys hs
  go_wp2_with fail
  go_loopw [8, 7] (fun iv ov wr => OLoop w p (.slice (some ⟨lb, lo, none⟩) m lc) (zs.map u8V) ys m iv ov wr) (fun iv _ _ => m - (intOf iv).toNat)
  case atStart => exact ⟨0, rfl, by omega, HD.out⟩
  case round =>
    clear HD
    obtain ⟨k, rfl, hkm, hd⟩ := hrel
    by_cases hlt : k < m
    · have hcv := conv1d
      have x1 : IntKind.i64.wrap (97 + (k : Int)) = 97 + k := IntWalk.i64_in _ (by omega)
      have x2 : IntKind.u8.wrap (97 + (k : Int)) = 97 + k := IntWalk.u8_in _ (by omega)
      have hkn' : (k : Int) < m := by omega
      obtain ⟨z, hz⟩ : ∃ z, zs.getD k 0 = z := ⟨_, rfl⟩
      obtain ⟨z0, z1⟩ := HR.out k
      rw [hz] at z0 z1
      have hy : ys.getD k 0 = z % 8 := by rw [HY.out k, hz]
      obtain ⟨y, hy'⟩ : ∃ y, z % 8 = y := ⟨_, rfl⟩
      have hy0 : 0 ≤ y ∧ y ≤ 7 := by omega
      rw [hy'] at hy
      rw [← Int.tmod_eq_emod_of_nonneg z0] at hy'
      have x3 : IntKind.u64.wrap y = y := IntWalk.u64_in _ (by omega)
      have hset : setL (bytL ys 0 k) (key1 k) y = bytL ys 0 (k + 1) := by rw [← bytL_setL (by omega), hy, Int.add_zero]
      have c1 : ∀ ov nv ol nl W, OS w p (bytL ys 0 k) k (.slice (some ⟨lb, lo, none⟩) m lc) (zs.map u8V) ov ol nv nl W → Calls Try.prog 10 #[.pointer (some ⟨p, 0, none⟩), .string (strOfNums [97 + (k : Int)]), .int .u64 y] W fun e w2 =>
          e = .returned (.int .i64 0) ∧ OS w p (bytL ys 0 (k + 1)) (k + 1) (.slice (some ⟨lb, lo, none⟩) m lc) (zs.map u8V) ov ol nv nl w2 := by
        intro ov nv ol nl W hW
        have := hW.set (by rw [bytL_length]; omega) (by omega) (key1 k) y
        rw [hset, bytL_setE (by omega)] at this
        exact this
      have C1 := Lib.hid c1
      have HD := Lib.hid hd
      have hbl : lb < wr.heap.size := hd.rl.lt rfl
      have hq : wr.cell? ⟨lb, lo + k, none⟩ = some (.int .u8 z) := by
        have hlen : (zs.map u8V).length = m := by rw [List.length_map, HM.out]
        rw [hd.rl.cellAt (by rw [hlen]; omega), List.getElem_map, ← hz]
        have hk' : k < zs.length := by rw [HM.out]; omega
        rw [List.getD_eq_getElem?_getD, List.getElem?_eq_getElem hk']; rfl
      clear c1 hset hz hd hy
      go_upto_region 12 with fail
      go_cut [47] (fun u47 wx => u47 = .bool false ∧ OS w p (bytL ys 0 (k + 1)) (k + 1) (.slice (some ⟨lb, lo, none⟩) m lc) (zs.map u8V) u7 ((List.range k).map iV) (.slice none 0 0) [] wx)
      case first =>
        go_region_with (go_at_call 10; refine (C1.out _ _ _ _ _ (HD.out.step ((Keeps.refl _ _).alloc _).drew)).mono ?_; rintro e w2 ⟨rfl, g1⟩)
        all_goals (go_wp2_with fail; go_meet; exact ⟨rfl, g1⟩)
      case rest =>
        obtain ⟨rfl, h2⟩ := hcut
        have HD := Lib.hid h2
        clear h2 C1
        go_wp2_with (at_builtin; refine wpList_app_row rfl _ _ 26 26 rfl 3 i3 (.int .i64 0) 8 Try.underlying26 hi3 hx0 hx1 hx2 rfl _ ((List.range k).map iV) rfl (HD.out.step ((Keeps.refl _ _).alloc _)).ro _ 1 [iV k] rfl ?cB ?cC ?cD ?_)
        case cB => exact RowAt.src (e := 3) (xs := [iV k]) Try.underlying26 (.inr ⟨_, 0, 1, #[iV k], rfl, heap_alloc_new _ _, by simp, by simp [maxLen], by simp, by simp⟩) (fun u hu => by simp only [List.mem_singleton] at hu; subst hu; rfl)
        case cC => simp [maxLen]; omega
        case cD => simp; omega
        intro ov' w5 r5 k5 n5
        have h5 := (HD.out.step ((Keeps.refl _ _).alloc _)).appO k5 r5 (by simpa using n5)
        rw [show (List.range k).map iV ++ [iV k] = (List.range (k + 1)).map iV by rw [List.range_succ, List.map_append]; rfl] at h5
        have HE := Lib.hid h5
        clear r5 k5 n5 h5 HD
        go_wp2
        go_roundw
        case rel => exact ⟨k + 1, by go_num, by omega, HE.out⟩
        case measure => simp [intOf]; omega
    · obtain rfl : k = m := by omega
      have hcv := conv1d
      have hlt' : ¬ (k : Int) < k := by omega
      have hdv : (k : Int) ≠ 0 := by omega
      have x1 : IntKind.i64.wrap (97 + (s : Int)) = 97 + s := IntWalk.i64_in _ (by omega)
      have x2 : IntKind.u8.wrap (97 + (s : Int)) = 97 + s := IntWalk.u8_in _ (by omega)
      have hsn' : (s : Int) < k := by omega
      obtain ⟨z, hz⟩ : ∃ z, zs.getD s 0 = z := ⟨_, rfl⟩
      obtain ⟨z0, z1⟩ := HR.out s
      rw [hz] at z0 z1
      have hy : ys.getD s 0 = z % 8 := by rw [HY.out s, hz]
      obtain ⟨y, hy'⟩ : ∃ y, z % 8 = y := ⟨_, rfl⟩
      have hy0 : 0 ≤ y ∧ y ≤ 7 := by omega
      rw [hy'] at hy
      rw [← Int.tmod_eq_emod_of_nonneg z0] at hy'
      have x3 : IntKind.u64.wrap y = y := IntWalk.u64_in _ (by omega)
      have c1 : ∀ ov nv ol nl W, OS w p (bytL ys 0 k) k (.slice (some ⟨lb, lo, none⟩) k lc) (zs.map u8V) ov ol nv nl W → Calls Try.prog 10 #[.pointer (some ⟨p, 0, none⟩), .string (strOfNums [97 + (s : Int)]), .int .u64 y] W fun e w2 =>
          e = .returned (.int .i64 0) ∧ OS w p ((ordL k s).map fun i => (key1 i, ys.getD i 0)) (k + 1) (.slice (some ⟨lb, lo, none⟩) k lc) (zs.map u8V) ov ol nv nl w2 := by
        intro ov nv ol nl W hW
        have := hW.set (by rw [bytL_length]; omega) (by omega) (key1 s) y
        rw [← hy, set_again ys hsm (by omega), setE_again ys hsm] at this
        rw [← hy]
        exact this
      have C1 := Lib.hid c1
      have HD := Lib.hid hd
      have hbl : lb < wr.heap.size := hd.rl.lt rfl
      have hq : wr.cell? ⟨lb, lo + s, none⟩ = some (.int .u8 z) := by
        have hlen : (zs.map u8V).length = k := by rw [List.length_map, HM.out]
        rw [hd.rl.cellAt (by rw [hlen]; omega), List.getElem_map, ← hz]
        have hk' : s < zs.length := by rw [HM.out]; omega
        rw [List.getD_eq_getElem?_getD, List.getElem?_eq_getElem hk']; rfl
      have hs := HSS.out
      clear c1 hz hd hy
      go_upto_region 16 with fail
      simp only [hs]
      clear hs
      go_cut [70] (fun u70 wx => u70 = .bool false ∧ OS w p ((ordL k s).map fun i => (key1 i, ys.getD i 0)) (k + 1) (.slice (some ⟨lb, lo, none⟩) k lc) (zs.map u8V) u7 ((List.range k).map iV) (.slice none 0 0) [] wx)
      case first =>
        go_region_with (go_at_call 10; refine (C1.out _ _ _ _ _ (HD.out.step ((Keeps.refl _ _).alloc _).drew)).mono ?_; rintro e w2 ⟨rfl, g1⟩)
        all_goals (go_wp2_with fail; go_meet; exact ⟨rfl, g1⟩)
      case rest =>
        obtain ⟨rfl, h2⟩ := hcut
        have HD := Lib.hid h2
        clear h2 C1 hq hbl x3 z0 z1 hy' hy0
        obtain ⟨ob, oo, oc, rfl, g1, g2⟩ := HD.out.ro.form (m := k) (by simp) (by omega)
        go_upto_region 18 with fail
        go_cut [7] (fun u7 wx => OS w p ((ordL k s).map fun i => (key1 i, ys.getD i 0)) (k + 1) (.slice (some ⟨lb, lo, none⟩) k lc) (zs.map u8V) u7 ((ordL k s).map iV) (.slice none 0 0) [] wx)
        case first =>
          have y1 : IntKind.i64.wrap ((s : Int) + 1) = s + 1 := IntWalk.i64_in _ (by omega)
          have y2 : (s : Int) ≤ oc := by omega
          have y3 : (s : Int) + 1 ≤ k := by omega
          have y4 : ((s : Int) + 1).toNat = s + 1 := by omega
          have y5 : s ≠ oc := by omega
          have y6 : ¬ ((s : Int) + 1 < 0) := by omega
          refine wp_region_any (by kernel_rfl) ?_
          change wpAny _ _ _ _ _ _ _ (World.drew _)
          refine wpAny_take (i := 0) (v := .slice (some ⟨ob, oo, none⟩) k oc) rfl (by kernel_rfl) (by kernel_rfl) (by kernel_rfl) (fun _ _ _ h => h) (Or.inl ⟨by rfl, by intro w; go_simp⟩) ?_
          refine wpAny_take (i := 1) (v := .int .i64 s) rfl (by kernel_rfl) (by kernel_rfl) (by kernel_rfl) (fun _ _ _ h => h) (Or.inl ⟨by rfl, by intro w; go_simp⟩) ?_
          refine wpAny_take (i := 2) (v := .slice (some ⟨ob, oo, none⟩) s oc) rfl (by kernel_rfl) (by kernel_rfl) (by kernel_rfl) (fun _ _ _ h => h) (Or.inl ⟨by rfl, ?_⟩) ?_
          · intro w; go_simp
          refine wpAny_take (i := 4) (v := .slice (some ⟨ob, oo, none⟩) k oc) rfl (by kernel_rfl) (by kernel_rfl) (by kernel_rfl) (fun _ _ _ h => h) (Or.inl ⟨by rfl, by intro w; go_simp⟩) ?_
          refine wpAny_take (i := 5) (v := .int .i64 s) rfl (by kernel_rfl) (by kernel_rfl) (by kernel_rfl) (fun _ _ _ h => h) (Or.inl ⟨by rfl, by intro w; go_simp⟩) ?_
          refine wpAny_take (i := 6) (v := .int .i64 (s + 1)) rfl (by kernel_rfl) (by kernel_rfl) (by kernel_rfl) (fun _ _ _ h => h) (Or.inl ⟨by rfl, by intro w; go_simp⟩) ?_
          refine wpAny_take (i := 7) (v := .slice (if oc = s + 1 then some ⟨ob, oo, none⟩ else some ⟨ob, oo + (s + 1), none⟩) (k - (s + 1)) (oc - (s + 1))) rfl (by kernel_rfl) (by kernel_rfl) (by kernel_rfl) (fun _ _ _ h => h) (Or.inl ⟨by rfl, ?_⟩) ?_
          · intro w; go_simp
          refine wpAny_take (i := 9) (v := .int .i64 s) rfl (by kernel_rfl) (by kernel_rfl) (by kernel_rfl) (fun _ _ _ h => h) (Or.inl ⟨by rfl, by intro w; go_simp⟩) ?_
          have q : Keeps (fun _ => False) wc wc.drew := (Keeps.refl _ _).drew
          have horder : [] ++ ((List.range k).take s).map iV ++ ((List.range k).drop (s + 1)).map iV ++ [iV s] = (ordL k s).map iV := by simp [ordL]
          have s1 : ∀ W, Keeps (fun _ => False) wc W → Src Try.prog 1 26 (.slice (Option.some ⟨ob, oo, none⟩) s oc) s (((List.range k).take s).map iV) W := by
            intro W hW
            have h := (HD.out.ro.keeps hW fun _ _ => id).take (k := s) (by simp; omega)
            rw [← List.map_take] at h
            have h := h.src (P := Try.prog) Try.underlying26 (fun u hu => by obtain ⟨z, _, rfl⟩ := List.mem_map.1 hu; rfl)
            rwa [List.length_map, List.length_take, List.length_range, Nat.min_eq_left (by omega)] at h
          have s2 : ∀ W, Keeps (fun _ => False) wc W → Src Try.prog 1 26 (.slice (if oc = s + 1 then Option.some ⟨ob, oo, none⟩ else Option.some ⟨ob, oo + (s + 1), none⟩) (k - (s + 1)) (oc - (s + 1))) (k - (s + 1)) (((List.range k).drop (s + 1)).map iV) W := by
            intro W hW
            have h := HD.out.ro.keeps hW fun _ _ => id
            split
            · have h0 : ((List.range k).drop (s + 1)) = [] := List.drop_eq_nil_iff.2 (by simp; omega)
              rw [h0, show k - (s + 1) = 0 by omega]
              exact Src.ofSlice _ Try.underlying26 _ _ _ _ rfl (by simp) (by simp)
            · refine Src.ofSlice _ Try.underlying26 _ _ _ _ (by simp) (fun j u hu => ?_) (fun u hu => by obtain ⟨z, _, rfl⟩ := List.mem_map.1 hu; rfl)
              obtain ⟨hj, e⟩ := List.getElem?_eq_some_iff.1 hu
              simp only [List.length_map, List.length_drop, List.length_range] at hj
              have hadd : (⟨ob, oo + (s + 1), none⟩ : Addr).add j = ⟨ob, oo + (s + 1 + j), none⟩ := addr_add ..
              rw [hadd, h.cellAt (by simp; omega), ← e]
              simp
          have S1 := Lib.hid s1
          have S2 := Lib.hid s2
          clear s1 s2
          have B1 := Lib.hid (show ([] : List Value).length + s ≤ 100 by simp; omega)
          have B2 := Lib.hid (show ([] ++ ((List.range k).take s).map iV).length + (k - (s + 1)) ≤ 100 by simp; omega)
          have B3 := Lib.hid (show ([] ++ ((List.range k).take s).map iV ++ ((List.range k).drop (s + 1)).map iV).length + 1 ≤ 100 by simp; omega)
          refine wpAny_ready (rs := [3, 10]) (by kernel_rfl) (by simp) ?_
          refine AllReady.cons rfl (fun K hK => ?_) (AllReady.cons rfl (fun K hK => ?_) AllReady.nil)
          · rw [if_pos (by rfl)]
            refine wp_app_row (.const (.slice none 0 0)) (.tmp 73) 26 26 rfl 3 i3 (.int .i64 0) 8 Try.underlying26 hi3 hx0 hx1 hx2 rfl (.slice none 0 0) [] (by go_simp) (RowAt.nil _ _) (.slice (Option.some ⟨ob, oo, none⟩) s oc) s (((List.range k).take s).map iV) (by go_simp) (S1.out _ q) (Nat.le_trans B1.out (by simp [maxLen])) (Nat.le_trans (Nat.mul_le_mul_right 8 B1.out) (by omega)) ?_
            intro v1 w1 r1 k1 n1
            refine hK _ _ ?_; clear hK K
            have e1 : ∀ b, v1.ownBlock = Option.some b → wc.heap.size ≤ b := fun b hb => (n1 b hb).elim (fun h => by cases h) (fun h => Nat.le_trans q.size h)
            have q := q.trans' k1 (fun _ _ h => by cases h)
            clear k1 n1
            refine wpAny_ready (rs := [8, 10]) (by kernel_rfl) (by simp) ?_
            refine AllReady.cons rfl (fun K hK => ?_) (AllReady.cons rfl (fun K hK => ?_) AllReady.nil)
            · rw [if_pos (by rfl)]
              refine wp_app_row (.tmp 74) (.tmp 78) 26 26 rfl 3 i3 (.int .i64 0) 8 Try.underlying26 hi3 hx0 hx1 hx2 rfl v1 ([] ++ ((List.range k).take s).map iV) (by go_simp) r1 (.slice (if oc = s + 1 then Option.some ⟨ob, oo, none⟩ else Option.some ⟨ob, oo + (s + 1), none⟩) (k - (s + 1)) (oc - (s + 1))) (k - (s + 1)) (((List.range k).drop (s + 1)).map iV) (by go_simp) (S2.out _ q) (Nat.le_trans B2.out (by simp [maxLen])) (Nat.le_trans (Nat.mul_le_mul_right 8 B2.out) (by omega)) ?_
              intro v2 w2 r2 k2 n2
              refine hK _ _ ?_; clear hK K
              have e2 : ∀ b, v2.ownBlock = Option.some b → wc.heap.size ≤ b := fun b hb => (n2 b hb).elim (e1 b) (fun h => Nat.le_trans q.size h)
              have q := q.trans' k2 (fun i hi e => by have := e1 i e; omega)
              clear k2 n2 r1
              refine wpAny_ready (rs := [10]) (by kernel_rfl) (by simp) ?_
              refine AllReady.cons rfl (fun K hK => ?_) AllReady.nil
              go_simp
              refine hK _ _ ?_; clear hK K
              obtain ⟨bv, hbv, rb⟩ : ∃ bv, bv = Value.slice (Option.some ⟨w2.heap.size, 0, none⟩) 1 1 ∧ RowAt (w2.alloc (.cells #[.int .i64 s] 3)) 3 bv [iV s] := ⟨_, rfl, .inr ⟨_, 0, 1, #[iV s], rfl, heap_alloc_new _ _, by simp, by simp [maxLen], by simp, by simp⟩⟩
              rw [← hbv]
              have r2 := r2.keeps (F := fun _ => False) ((Keeps.refl _ _).alloc (.cells #[.int .i64 s] 3)) (fun _ _ => id)
              have q := q.alloc (.cells #[.int .i64 s] 3)
              clear hbv
              refine wpAny_ready (rs := [11]) (by kernel_rfl) (by simp) ?_
              refine AllReady.cons rfl (fun K hK => ?_) AllReady.nil
              rw [if_pos (by rfl)]
              refine wp_app_row (.tmp 79) (.tmp 81) 26 26 rfl 3 i3 (.int .i64 0) 8 Try.underlying26 hi3 hx0 hx1 hx2 rfl v2 ([] ++ ((List.range k).take s).map iV ++ ((List.range k).drop (s + 1)).map iV) (by go_simp) r2 bv 1 [iV s] (by go_simp) (RowAt.src (xs := [iV s]) Try.underlying26 rb (fun u hu => by simp only [List.mem_singleton] at hu; subst hu; rfl)) (Nat.le_trans B3.out (by simp [maxLen])) (Nat.le_trans (Nat.mul_le_mul_right 8 B3.out) (by omega)) ?_
              intro v3 w3 r3 k3 n3
              refine hK _ _ ?_; clear hK K
              have e3 : ∀ b, v3.ownBlock = Option.some b → wc.heap.size ≤ b := fun b hb => (n3 b hb).elim (e2 b) (fun h => Nat.le_trans q.size h)
              have q := q.trans' k3 (fun i hi e => by have := e2 i e; omega)
              have HE := Lib.hid (HD.out.newO q r3 e3)
              rw [horder] at HE
              clear k3 n3 r3 e3 e2 e1 q r2 rb
              refine wpAny_take (i := 12) (v := v3) rfl (by kernel_rfl) (by kernel_rfl) (by kernel_rfl) (fun _ _ _ h => h) (Or.inl ⟨by rfl, by intro w; go_simp⟩) ?_
              refine wpAny_done (by kernel_rfl) ?_ _
              go_wp2_with fail
              all_goals (go_meet; exact HE.out)
            · go_simp
              refine hK _ _ ?_; clear hK K
              obtain ⟨bv, hbv, rb⟩ : ∃ bv, bv = Value.slice (Option.some ⟨w1.heap.size, 0, none⟩) 1 1 ∧ RowAt (w1.alloc (.cells #[.int .i64 s] 3)) 3 bv [iV s] := ⟨_, rfl, .inr ⟨_, 0, 1, #[iV s], rfl, heap_alloc_new _ _, by simp, by simp [maxLen], by simp, by simp⟩⟩
              rw [← hbv]
              have nb : ∀ b, v1.ownBlock = Option.some b → bv.ownBlock ≠ Option.some b := fun b hb hx => by have h5 := r1.lt hb; rw [hbv] at hx; simp only [Value.ownBlock, Option.some.injEq] at hx; omega
              have r1 := r1.keeps (F := fun _ => False) ((Keeps.refl _ _).alloc (.cells #[.int .i64 s] 3)) (fun _ _ => id)
              have q := q.alloc (.cells #[.int .i64 s] 3)
              clear hbv
              refine wpAny_ready (rs := [8]) (by kernel_rfl) (by simp) ?_
              refine AllReady.cons rfl (fun K hK => ?_) AllReady.nil
              rw [if_pos (by rfl)]
              refine wp_app_row (.tmp 74) (.tmp 78) 26 26 rfl 3 i3 (.int .i64 0) 8 Try.underlying26 hi3 hx0 hx1 hx2 rfl v1 ([] ++ ((List.range k).take s).map iV) (by go_simp) r1 (.slice (if oc = s + 1 then Option.some ⟨ob, oo, none⟩ else Option.some ⟨ob, oo + (s + 1), none⟩) (k - (s + 1)) (oc - (s + 1))) (k - (s + 1)) (((List.range k).drop (s + 1)).map iV) (by go_simp) (S2.out _ q) (Nat.le_trans B2.out (by simp [maxLen])) (Nat.le_trans (Nat.mul_le_mul_right 8 B2.out) (by omega)) ?_
              intro v2 w2 r2 k2 n2
              refine hK _ _ ?_; clear hK K
              have e2 : ∀ b, v2.ownBlock = Option.some b → wc.heap.size ≤ b := fun b hb => (n2 b hb).elim (e1 b) (fun h => Nat.le_trans q.size h)
              have rb := rb.keeps k2 (fun b hb hv => nb b hv hb)
              have q := q.trans' k2 (fun i hi e => by have := e1 i e; omega)
              clear k2 n2 r1
              refine wpAny_ready (rs := [11]) (by kernel_rfl) (by simp) ?_
              refine AllReady.cons rfl (fun K hK => ?_) AllReady.nil
              rw [if_pos (by rfl)]
              refine wp_app_row (.tmp 79) (.tmp 81) 26 26 rfl 3 i3 (.int .i64 0) 8 Try.underlying26 hi3 hx0 hx1 hx2 rfl v2 ([] ++ ((List.range k).take s).map iV ++ ((List.range k).drop (s + 1)).map iV) (by go_simp) r2 bv 1 [iV s] (by go_simp) (RowAt.src (xs := [iV s]) Try.underlying26 rb (fun u hu => by simp only [List.mem_singleton] at hu; subst hu; rfl)) (Nat.le_trans B3.out (by simp [maxLen])) (Nat.le_trans (Nat.mul_le_mul_right 8 B3.out) (by omega)) ?_
              intro v3 w3 r3 k3 n3
              refine hK _ _ ?_; clear hK K
              have e3 : ∀ b, v3.ownBlock = Option.some b → wc.heap.size ≤ b := fun b hb => (n3 b hb).elim (e2 b) (fun h => Nat.le_trans q.size h)
              have q := q.trans' k3 (fun i hi e => by have := e2 i e; omega)
              have HE := Lib.hid (HD.out.newO q r3 e3)
              rw [horder] at HE
              clear k3 n3 r3 e3 e2 e1 q r2 rb
              refine wpAny_take (i := 12) (v := v3) rfl (by kernel_rfl) (by kernel_rfl) (by kernel_rfl) (fun _ _ _ h => h) (Or.inl ⟨by rfl, by intro w; go_simp⟩) ?_
              refine wpAny_done (by kernel_rfl) ?_ _
              go_wp2_with fail
              all_goals (go_meet; exact HE.out)
          · go_simp
            refine hK _ _ ?_; clear hK K
            obtain ⟨bv, hbv, rb⟩ : ∃ bv, bv = Value.slice (Option.some ⟨wc.heap.size, 0, none⟩) 1 1 ∧ RowAt (wc.drew.alloc (.cells #[.int .i64 s] 3)) 3 bv [iV s] := ⟨_, rfl, .inr ⟨_, 0, 1, #[iV s], rfl, heap_alloc_new _ _, by simp, by simp [maxLen], by simp, by simp⟩⟩
            rw [← hbv]
            have q := q.alloc (.cells #[.int .i64 s] 3)
            clear hbv
            refine wpAny_ready (rs := [3]) (by kernel_rfl) (by simp) ?_
            refine AllReady.cons rfl (fun K hK => ?_) AllReady.nil
            rw [if_pos (by rfl)]
            refine wp_app_row (.const (.slice none 0 0)) (.tmp 73) 26 26 rfl 3 i3 (.int .i64 0) 8 Try.underlying26 hi3 hx0 hx1 hx2 rfl (.slice none 0 0) [] (by go_simp) (RowAt.nil _ _) (.slice (Option.some ⟨ob, oo, none⟩) s oc) s (((List.range k).take s).map iV) (by go_simp) (S1.out _ q) (Nat.le_trans B1.out (by simp [maxLen])) (Nat.le_trans (Nat.mul_le_mul_right 8 B1.out) (by omega)) ?_
            intro v1 w1 r1 k1 n1
            refine hK _ _ ?_; clear hK K
            have e1 : ∀ b, v1.ownBlock = Option.some b → wc.heap.size ≤ b := fun b hb => (n1 b hb).elim (fun h => by cases h) (fun h => Nat.le_trans q.size h)
            have nb : ∀ b, v1.ownBlock = Option.some b → bv.ownBlock ≠ Option.some b := fun b hb hx => by have h5 := rb.lt hx; rcases n1 b hb with h | h; cases h; first | omega | (simp at h h5; omega)
            have rb := rb.keeps k1 (fun _ _ h => by cases h)
            have q := q.trans' k1 (fun _ _ h => by cases h)
            clear k1 n1
            refine wpAny_ready (rs := [8]) (by kernel_rfl) (by simp) ?_
            refine AllReady.cons rfl (fun K hK => ?_) AllReady.nil
            rw [if_pos (by rfl)]
            refine wp_app_row (.tmp 74) (.tmp 78) 26 26 rfl 3 i3 (.int .i64 0) 8 Try.underlying26 hi3 hx0 hx1 hx2 rfl v1 ([] ++ ((List.range k).take s).map iV) (by go_simp) r1 (.slice (if oc = s + 1 then Option.some ⟨ob, oo, none⟩ else Option.some ⟨ob, oo + (s + 1), none⟩) (k - (s + 1)) (oc - (s + 1))) (k - (s + 1)) (((List.range k).drop (s + 1)).map iV) (by go_simp) (S2.out _ q) (Nat.le_trans B2.out (by simp [maxLen])) (Nat.le_trans (Nat.mul_le_mul_right 8 B2.out) (by omega)) ?_
            intro v2 w2 r2 k2 n2
            refine hK _ _ ?_; clear hK K
            have e2 : ∀ b, v2.ownBlock = Option.some b → wc.heap.size ≤ b := fun b hb => (n2 b hb).elim (e1 b) (fun h => Nat.le_trans q.size h)
            have rb := rb.keeps k2 (fun b hb hv => nb b hv hb)
            have q := q.trans' k2 (fun i hi e => by have := e1 i e; omega)
            clear k2 n2 r1
            refine wpAny_ready (rs := [11]) (by kernel_rfl) (by simp) ?_
            refine AllReady.cons rfl (fun K hK => ?_) AllReady.nil
            rw [if_pos (by rfl)]
            refine wp_app_row (.tmp 79) (.tmp 81) 26 26 rfl 3 i3 (.int .i64 0) 8 Try.underlying26 hi3 hx0 hx1 hx2 rfl v2 ([] ++ ((List.range k).take s).map iV ++ ((List.range k).drop (s + 1)).map iV) (by go_simp) r2 bv 1 [iV s] (by go_simp) (RowAt.src (xs := [iV s]) Try.underlying26 rb (fun u hu => by simp only [List.mem_singleton] at hu; subst hu; rfl)) (Nat.le_trans B3.out (by simp [maxLen])) (Nat.le_trans (Nat.mul_le_mul_right 8 B3.out) (by omega)) ?_
            intro v3 w3 r3 k3 n3
            refine hK _ _ ?_; clear hK K
            have e3 : ∀ b, v3.ownBlock = Option.some b → wc.heap.size ≤ b := fun b hb => (n3 b hb).elim (e2 b) (fun h => Nat.le_trans q.size h)
            have q := q.trans' k3 (fun i hi e => by have := e2 i e; omega)
            have HE := Lib.hid (HD.out.newO q r3 e3)
            rw [horder] at HE
            clear k3 n3 r3 e3 e2 e1 q r2 rb
            refine wpAny_take (i := 12) (v := v3) rfl (by kernel_rfl) (by kernel_rfl) (by kernel_rfl) (fun _ _ _ h => h) (Or.inl ⟨by rfl, by intro w; go_simp⟩) ?_
            refine wpAny_done (by kernel_rfl) ?_ _
            go_wp2_with fail
            all_goals (go_meet; exact HE.out)
        case rest =>
          have HD := Lib.hid hcut
          clear hcut hdv x1 x2 hsn' g1 g2 hcv
          obtain ⟨os, hos⟩ : ∃ os, ordL k s = os := ⟨_, rfl⟩
          have hol : os.length = k := by rw [← hos]; exact ordL_length hsm
          have hot : ∀ i (hi : i < os.length), os[i] < k := fun i hi => ordL_lt hsm (hos ▸ List.getElem_mem hi)
          have hdue := due_seven ys hsm (by omega) (fun i => by rw [HY.out i]; have := HR.out i; omega)
          obtain ⟨f, hf⟩ : ∃ f : Nat → Int, (fun i => ys.getD i 0) = f := ⟨_, rfl⟩
          have hfe : ∀ i, ys.getD i 0 = f i := fun i => congrFun hf i
          rw [hos] at hdue HD
          simp only [hfe] at hdue HD
          have HY := Lib.hid (show ∀ i, f i = zs.getD i 0 % 8 from fun i => (hfe i).symm.trans (HY.out i))
          clear hf hfe
          have HDue := Lib.hid hdue
          have HOT := Lib.hid hot
          have HOL := Lib.hid hol
          clear hdue hos hot hol
          obtain ⟨ob2, oo2, oc2, rfl, g1, g2⟩ := HD.out.ro.form (m := k) (by rw [List.length_map, HOL.out]) (by omega)
          go_wp2_with fail
          clear hlt'
          go_loopw [11, 10] (fun av nv wr => ∃ a : Nat, av = .int .i64 a ∧ a ≤ 8 ∧ OS w p (os.map fun i => (key1 i, f i)) (k + 1) (.slice (some ⟨lb, lo, none⟩) k lc) (zs.map u8V) (.slice (some ⟨ob2, oo2, none⟩) k oc2) (os.map iV) nv ((wantL f os a).map strV) wr) (fun av _ _ => 8 - (intOf av).toNat)
          case atStart => exact ⟨0, rfl, by omega, HD.out⟩
          case round =>
            clear HD
            obtain ⟨a, rfl, ha8, hd⟩ := hrel
            have HD := Lib.hid hd
            clear hd
            by_cases ha : a < 8
            · have ha' : (a : Int) < 8 := by omega
              go_wp2_with fail
              clear ha'
              go_loopw [12, 10] (fun iv nv wr => ∃ i : Nat, iv = .int .i64 i ∧ i ≤ k ∧ OS w p (os.map fun i => (key1 i, f i)) (k + 1) (.slice (some ⟨lb, lo, none⟩) k lc) (zs.map u8V) (.slice (some ⟨ob2, oo2, none⟩) k oc2) (os.map iV) nv ((wantL f os a ++ ((os.take i).filter fun i => decide (f i = (a : Int))).map key1).map strV) wr) (fun iv _ _ => k - (intOf iv).toNat)
              case atStart => exact ⟨0, rfl, by omega, by simpa using HD.out⟩
              case round =>
                clear HD
                obtain ⟨i, rfl, hik, hd⟩ := hrel
                have HD := Lib.hid hd
                clear hd
                by_cases hi : i < k
                · have hi' : (i : Int) < k := by omega
                  have hio : i < os.length := by rw [HOL.out]; exact hi
                  obtain ⟨t, ht⟩ : ∃ t, os[i] = t := ⟨_, rfl⟩
                  have htk : t < k := by rw [← ht]; exact HOT.out i hio
                  have htk' : (t : Int) < k := by omega
                  obtain ⟨z, hz⟩ : ∃ z, zs.getD t 0 = z := ⟨_, rfl⟩
                  obtain ⟨z0, z1⟩ := HR.out t
                  rw [hz] at z0 z1
                  have hy : f t = z % 8 := by rw [HY.out t, hz]
                  obtain ⟨y, hy'⟩ : ∃ y, z % 8 = y := ⟨_, rfl⟩
                  have hy0 : 0 ≤ y ∧ y ≤ 7 := by omega
                  rw [hy'] at hy
                  rw [← Int.tmod_eq_emod_of_nonneg z0] at hy'
                  have x3 : IntKind.i64.wrap y = y := IntWalk.i64_in _ (by omega)
                  have hbl : lb < wr.heap.size := HD.out.rl.lt rfl
                  have hol : ob2 < wr.heap.size := HD.out.ro.lt rfl
                  have hq1 : wr.cell? ⟨ob2, oo2 + i, none⟩ = some (.int .i64 t) := by
                    rw [HD.out.ro.cellAt (by simpa using hio), List.getElem_map, ht]; rfl
                  have hq2 : wr.cell? ⟨lb, lo + t, none⟩ = some (.int .u8 z) := by
                    have hlen : (zs.map u8V).length = k := by rw [List.length_map, HM.out]
                    rw [HD.out.rl.cellAt (by rw [hlen]; omega), List.getElem_map, ← hz]
                    have hk' : t < zs.length := by rw [HM.out]; omega
                    rw [List.getD_eq_getElem?_getD, List.getElem?_eq_getElem hk']; rfl
                  have hfil : (os.take (i + 1)).filter (fun i => decide (f i = (a : Int))) = (os.take i).filter (fun i => decide (f i = (a : Int))) ++ (if y = a then [t] else []) := by
                    rw [List.take_succ_eq_append_getElem hio, List.filter_append, ht]
                    by_cases hya : y = a <;> simp [hy, hya]
                  have HFil := Lib.hid hfil
                  clear ht hz hy hfil
                  by_cases hya : y = a
                  · rw [if_pos hya] at HFil
                    have hcv := conv1
                    have x1 : IntKind.i64.wrap (97 + (t : Int)) = 97 + t := IntWalk.i64_in _ (by omega)
                    have x2 : IntKind.u8.wrap (97 + (t : Int)) = 97 + t := IntWalk.u8_in _ (by omega)
                    subst hya
                    have hxl : (((wantL f os a ++ ((os.take i).filter fun i => decide (f i = (a : Int))).map key1).map strV)).length + 1 ≤ 1000 := by
                      rw [List.length_map, List.length_append, List.length_map]
                      have h1 := wantL_le f os a
                      have h2 := List.length_filter_le (fun i => decide (f i = (a : Int))) (os.take i)
                      rw [List.length_take] at h2
                      have h3 : a * os.length ≤ 8 * 21 := Nat.mul_le_mul ha8 (by rw [HOL.out]; exact hm20)
                      omega
                    have hdn := HD.out
                    obtain ⟨X, hX⟩ : ∃ X, (wantL f os a ++ ((os.take i).filter fun i => decide (f i = (a : Int))).map key1).map strV = X := ⟨_, rfl⟩
                    have hX2 : X ++ [strV (key1 t)] = (wantL f os a ++ ((os.take (i + 1)).filter fun i => decide (f i = (a : Int))).map key1).map strV := by rw [HFil.out, ← hX]; simp
                    rw [hX] at hxl hdn
                    have HXL := Lib.hid hxl
                    have HX2 := Lib.hid hX2
                    have HD := Lib.hid hdn
                    clear hxl hX hX2 hdn
                    go_wp2_with (at_builtin; refine wpList_app_row rfl _ _ 30 30 rfl 9 i9 (.string ByteArray.empty) 16 Try.underlying30 hi9 hy0' hy1 hy2 rfl _ X rfl (HD.out.step (((Keeps.refl _ _).alloc _).alloc _)).rn _ 1 [strV (key1 t)] rfl ?cB (Nat.le_trans HXL.out (by simp [maxLen])) (Nat.le_trans (Nat.mul_le_mul_right 16 HXL.out) (by omega)) ?_)
                    case cB => exact RowAt.src (e := 9) (xs := [strV (key1 t)]) Try.underlying30 (.inr ⟨_, 0, 1, #[strV (key1 t)], rfl, heap_alloc_new2 _ _ _, by simp, by simp [maxLen], by simp, by simp⟩) (fun u hu => by simp only [List.mem_singleton] at hu; subst hu; rfl)
                    intro nv' w5 r5 k5 n5
                    have h5 := (HD.out.step (((Keeps.refl _ _).alloc _).alloc _)).appN k5 (HX2.out ▸ r5) (by simpa using n5)
                    have HE := Lib.hid h5
                    clear r5 k5 n5 h5 HD HFil HXL HX2
                    go_wp2
                    go_roundw
                    case rel => exact ⟨i + 1, by go_num, by omega, HE.out⟩
                    case measure => simp [intOf]; omega
                  · rw [if_neg hya] at HFil
                    have HFil := HFil.out
                    rw [List.append_nil] at HFil
                    have HFil := Lib.hid HFil
                    go_wp2
                    go_roundw
                    case rel => exact ⟨i + 1, by go_num, by omega, by rw [HFil.out]; exact HD.out⟩
                    case measure => simp [intOf]; omega
                · obtain rfl : i = k := by omega
                  have hi' : ¬ (i : Int) < i := by omega
                  have hend := HD.out
                  rw [← HOL.out, List.take_length, ← wantL_succ f os a] at hend
                  rw [HOL.out] at hend
                  have HE := Lib.hid hend
                  clear hend HD
                  go_wp2
                  go_roundw
                  case rel => exact ⟨a + 1, by go_num, by omega, HE.out⟩
                  case measure => simp [intOf]; omega
            · obtain rfl : a = 8 := by omega
              have hlt8 : ¬ ((8 : Nat) : Int) < 8 := by omega
              have cd := HD.out.due (by rw [List.length_map, HOL.out]; omega) 7
              obtain ⟨U, hU⟩ : ∃ U, wantL f os 8 = U := ⟨_, rfl⟩
              have hUl : U.length ≤ 168 := by rw [← hU]; have h1 := wantL_le f os 8; have h2 := HOL.out; omega
              have hdue := HDue.out
              rw [hdue.1, hdue.2, hU] at cd
              have CD := Lib.hid cd
              clear hdue HDue cd hU HD
              go_wp2_with fail
              refine CD.out.mono ?_; rintro e w5 ⟨sv, rfl, r5, h5⟩
              obtain ⟨gv, gc, rfl⟩ := r5.val
              obtain ⟨nv, nc, rfl⟩ := h5.rn.val
              rw [List.length_map] at r5 h5
              have H5 := Lib.hid h5
              have R5 := Lib.hid r5
              have CL := Lib.hid h5.len
              clear h5 r5 CD
              simp only [List.length_map]
              go_wp2_with fail
              refine CL.out.mono ?_; rintro e w6 ⟨rfl, rfl⟩
              clear CL
              go_wp2_with fail
              go_loopw [14] (fun iv wr => ∃ j : Nat, iv = .int .i64 j ∧ j ≤ U.length ∧ Keeps (fun _ => False) w5 wr) (fun iv _ => U.length - (intOf iv).toNat)
              case atStart => exact ⟨0, rfl, by omega, Keeps.refl _ _⟩
              case round =>
                obtain ⟨j, rfl, hj, hkk⟩ := hrel
                have HA := Lib.hid (R5.out.keeps hkk fun _ _ => id)
                have HZ := Lib.hid (H5.out.rn.keeps hkk fun _ _ => id)
                have HKK := Lib.hid hkk
                clear hkk
                by_cases hju : j < U.length
                · have hju' : (j : Int) < U.length := by omega
                  obtain ⟨b1, o1, c1, e1, g1, g2⟩ := HA.out.form (List.length_map ..) (by omega)
                  simp only [Value.slice.injEq] at e1
                  obtain ⟨rfl, _, rfl⟩ := e1
                  obtain ⟨b2, o2, c2, e2, g3, g4⟩ := HZ.out.form (List.length_map ..) (by omega)
                  simp only [Value.slice.injEq] at e2
                  obtain ⟨rfl, _, rfl⟩ := e2
                  obtain ⟨u, hu⟩ : ∃ u, U[j] = u := ⟨_, rfl⟩
                  have q1 : wr.cell? ⟨b1, o1 + j, none⟩ = some (.string u) := by
                    have := HA.out.cellAt (i := j) (by simpa using hju)
                    rw [List.getElem_map, hu] at this; exact this
                  have q2 : wr.cell? ⟨b2, o2 + j, none⟩ = some (.string u) := by
                    have := HZ.out.cellAt (i := j) (by simpa using hju)
                    rw [List.getElem_map, hu] at this; exact this
                  have l1 := HA.out.lt rfl
                  have l2 := HZ.out.lt rfl
                  clear hu
                  go_wp2_with (go_quiet (fail))
                  go_roundw
                  case rel => exact ⟨j + 1, by go_num, by omega, HKK.out.trans ((Keeps.refl _ _).drewN _)⟩
                  case measure => simp [intOf]; omega
                · obtain rfl : j = U.length := by omega
                  have hlt' : ¬ (U.length : Int) < U.length := by omega
                  go_wp2
                  go_ret
                  exact ⟨rfl, H5.out.keeps.trans HKK.out⟩
end Go.Proofs.Ytfecgibdhglhiaa
