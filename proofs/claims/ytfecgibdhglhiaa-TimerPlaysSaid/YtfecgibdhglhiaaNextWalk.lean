/-
  The walk of the statement TimerNext: it answers true, and nothing that was there turns.
  Conditions: the slice is nil, or leads to a row of bytes.
-/
import Derived.Test.YtfecgibdhglhiaaTimes
import Derived.Deep.RegionWith
import Derived.BigRegion
import Derived.IntWalk
import Derived.Handy
namespace Go.Proofs.Ytfecgibdhglhiaa
open Go.RowKit
theorem conv1 (W : World) (x : Int) : Sem.run Try.prog (convert 22 9 (.slice (some ⟨W.heap.size, 0, none⟩) 1 1)) (W.alloc (.cells #[.int .u8 x] 5)) = .ok (.string (strOfNums [x])) (W.alloc (.cells #[.int .u8 x] 5)) :=
  run_convert_bytes_arg _ 22 5 Try.underlying22 Try.underlying5 _ 0 1 1 [x] rfl (fun i hi => by
    obtain rfl : i = 0 := by omega
    rw [Nat.zero_add, World.cell?_alloc_at _ _ _ _ rfl]; rfl) 9 Try.underlying9
theorem conv1d (W : World) (x : Int) : Sem.run Try.prog (convert 22 9 (.slice (some ⟨W.heap.size, 0, none⟩) 1 1)) (W.alloc (.cells #[.int .u8 x] 5)).drew = .ok (.string (strOfNums [x])) (W.alloc (.cells #[.int .u8 x] 5)).drew :=
  run_convert_bytes_arg _ 22 5 Try.underlying22 Try.underlying5 _ 0 1 1 [x] rfl (fun i hi => by
    obtain rfl : i = 0 := by omega
    show (W.alloc _).cell? _ = _
    rw [Nat.zero_add, World.cell?_alloc_at _ _ _ _ rfl]; rfl) 9 Try.underlying9
def key1 (i : Nat) : ByteArray := strOfNums [97 + (i : Int)]
/-- what is set: the i-th at the i-th number and a bit -/
def bytL (zs : List Int) (d : Int) (n : Nat) : List IA := (List.range n).map fun i => (key1 i, zs.getD i 0 + d)
theorem key1_inj {i j : Nat} (hi : i < 100) (hj : j < 100) (h : key1 i = key1 j) : i = j := by
  have := congrArg (fun s : ByteArray => s.data.toList) h
  have h1 : UInt8.ofNat (97 + (i : Int)).toNat = UInt8.ofNat (97 + (j : Int)).toNat := by simpa [key1, strOfNums] using this
  have := u8_inj (by omega) (by omega) h1
  omega
theorem bytL_length (zs : List Int) (d : Int) (n : Nat) : (bytL zs d n).length = n := by simp [bytL]
theorem bytL_succ (zs : List Int) (d : Int) (n : Nat) : bytL zs d (n + 1) = bytL zs d n ++ [(key1 n, zs.getD n 0 + d)] := by simp [bytL, List.range_succ]
theorem bytL_has {zs : List Int} {d : Int} {n : Nat} {k : ByteArray} : hasL (bytL zs d n) k = true ↔ ∃ i, i < n ∧ key1 i = k := by
  unfold hasL bytL
  rw [List.any_eq_true]
  constructor
  · rintro ⟨x, hx, e⟩
    obtain ⟨i, hi, rfl⟩ := List.mem_map.1 hx
    exact ⟨i, List.mem_range.1 hi, of_decide_eq_true e⟩
  · rintro ⟨i, hi, e⟩
    exact ⟨_, List.mem_map.2 ⟨i, List.mem_range.2 hi, rfl⟩, decide_eq_true e⟩
theorem key1_bad (n : Nat) : bad (key1 n) = false := by rw [bad_eq]; rfl
theorem bytL_no {zs : List Int} {d : Int} {n : Nat} (h : n < 100) : hasL (bytL zs d n) (key1 n) = false := by
  cases e : hasL (bytL zs d n) (key1 n)
  · rfl
  · obtain ⟨i, hi, e2⟩ := bytL_has.1 e
    have := key1_inj (by omega) h e2
    omega
theorem bytL_setE {zs : List Int} {d : Int} {n : Nat} (h : n < 100) : setE (bytL zs d n) (key1 n) = 0 := by
  unfold setE
  rw [key1_bad, bytL_length]
  have : (n == 1024) = false := by simp; omega
  rw [this]; simp
theorem bytL_setL {zs : List Int} {d : Int} {n : Nat} (h : n < 100) : setL (bytL zs d n) (key1 n) (zs.getD n 0 + d) = bytL zs d (n + 1) := by
  unfold setL
  rw [bytL_setE h, delL_none (bytL_no h), bytL_succ]; simp
theorem bytL_uniq (zs : List Int) (d : Int) (n : Nat) (h : n ≤ 100) : Uniq (bytL zs d n) := by
  induction n with
  | zero => simp [bytL, Uniq]
  | succ n ih => rw [bytL_succ]; exact uniq_add (ih (by omega)) _ (bytL_no (by omega))
theorem bytL_mem {zs : List Int} {d : Int} {n : Nat} {x : IA} (h : x ∈ bytL zs d n) : ∃ i, i < n ∧ x = (key1 i, zs.getD i 0 + d) := by
  obtain ⟨i, hi, rfl⟩ := List.mem_map.1 h
  exact ⟨i, List.mem_range.1 hi, rfl⟩
/-- the timers so far -/
def SetRel (w : World) (p : Nat) (zs : List Int) (d : Int) (n : Nat) (iv : Value) (wr : World) : Prop := ∃ (k : Nat) (F : Nat → Prop), iv = .int .i64 k ∧ k ≤ n ∧ Tm wr F p (bytL zs d k) k ∧ (∀ b, F b → w.heap.size ≤ b) ∧ Keeps (fun _ => False) w wr
theorem at_uniq {L : List IA} (hu : Uniq L) {k : ByteArray} {a : Int} (h : (k, a) ∈ L) : atL L k = some a := by
  induction L with
  | nil => cases h
  | cons x xs ih =>
    unfold Uniq at hu
    rw [List.map_cons, List.nodup_cons] at hu
    unfold atL
    rcases List.mem_cons.1 h with e | e
    · subst e; simp
    · rw [List.find?_cons_of_neg]
      · exact ih hu.2 e
      · intro e2
        exact hu.1 (List.mem_map.2 ⟨_, e, (of_decide_eq_true e2).symm⟩)
def NextRel (w : World) (p n : Nat) (iv : Value) (wr : World) : Prop := ∃ (L : List IA) (F : Nat → Prop) (j : Nat), iv = .int .i64 j ∧ j + L.length = n ∧ Uniq L ∧ (∀ x ∈ L, 1 ≤ x.2 ∧ x.2 ≤ 256) ∧ Tm wr F p L n ∧ (∀ b, F b → w.heap.size ≤ b) ∧ Keeps (fun _ => False) w wr
set_option maxRecDepth 100000 in
set_option maxHeartbeats 1000000 in
theorem next_some (b off len c : Nat) (zs : List Int) (w : World) (h0 : 0 < len) (hlc : len ≤ c) (hb : b < w.heap.size) (hcell : ∀ i, i < c → w.cell? ⟨b, off + i, none⟩ = some (.int .u8 (zs.getD i 0)))
    (hz : ∀ i, 0 ≤ zs.getD i 0 ∧ zs.getD i 0 ≤ 255) :
    Calls Try.prog 7 #[.slice (some ⟨b, off, none⟩) len c] w fun e w' => e = .returned (.bool true) ∧ Keeps (fun _ => False) w w' := by
  obtain ⟨n, hn⟩ : ∃ n, min len 20 = n := ⟨_, rfl⟩
  have hn1 : n ≤ len := by omega
  have hn2 : n ≤ 20 := by omega
  have hmn : (if (20 : Int) < (len : Int) then (20 : Int) else len) = (n : Int) := by split <;> omega
  have HN := Lib.hid hn
  have HC := Lib.hid hcell
  have HZ := Lib.hid hz
  clear hcell hz hn
  go_enter Try.func7, Try.ntmps7
  go_wp2_with fail
  refine (examples_any w).mono ?_; rintro e w1 ⟨rfl, k1⟩
  go_wp2_with fail
  refine (newL w1).mono ?_; rintro e w0 ⟨p, F0, rfl, h0, f0, k0⟩
  have k0' : Keeps (fun _ => False) w w0 := k1.trans k0
  have f0' : ∀ b, F0 b → w.heap.size ≤ b := fun b hb => Nat.le_trans k1.size (f0 b hb)
  clear k0 f0 k1
  go_wp2_with fail
  go_loopw [5] (fun iv wr => SetRel w p zs 1 n iv wr) (fun iv _ => n - (intOf iv).toNat)
  case atStart => exact ⟨0, F0, rfl, by omega, h0, f0', k0'⟩
  case round =>
    clear h0 f0' k0'
    obtain ⟨k, F, rfl, hkn, h, hf, hk⟩ := hrel
    by_cases hlt : k < n
    · have hcv := conv1d
      have x1 : IntKind.i64.wrap (97 + (k : Int)) = 97 + k := IntWalk.i64_in _ (by omega)
      have x2 : IntKind.u8.wrap (97 + (k : Int)) = 97 + k := IntWalk.u8_in _ (by omega)
      have hbl : b < wr.heap.size := Nat.lt_of_lt_of_le hb hk.size
      have hkn' : (k : Int) < n := by omega
      have q1 : wr.cell? ⟨b, off + k, none⟩ = some (.int .u8 (zs.getD k 0)) := (World.cell?_of_block (a := ⟨b, off + k, none⟩) (hk.block b hb id)).trans (HC.out k (by omega))
      obtain ⟨z, hz⟩ : ∃ z, zs.getD k 0 = z := ⟨_, rfl⟩
      obtain ⟨z0, z1⟩ := HZ.out k
      rw [hz] at q1 z0 z1
      have x3 : IntKind.u64.wrap z = z := IntWalk.u64_in _ (by omega)
      have x4 : IntKind.u64.wrap (z + 1) = z + 1 := IntWalk.u64_in _ (by omega)
      have hy1 : zs.getD k 0 + 1 = z + 1 := by rw [hz]
      have c0 : ∀ W, Tm W F p (bytL zs 1 k) k → Calls Try.prog 10 #[.pointer (some ⟨p, 0, none⟩), .string (strOfNums [97 + (k : Int)]), .int .u64 (z + 1)] W fun e w' =>
          e = .returned (.int .i64 0) ∧ (∃ F', Tm w' F' p (bytL zs 1 (k + 1)) (k + 1) ∧ ∀ b, F' b → F b ∨ W.heap.size ≤ b) ∧ Keeps F W w' := by
        intro W hw
        have := setL_any hw (by rw [bytL_length]; omega) (by omega) (key1 k) (zs.getD k 0 + 1)
        rw [bytL_setE (by omega), bytL_setL (by omega), hz] at this
        exact this
      have C := Lib.hid c0
      have H := Lib.hid h
      clear c0 h hz hy1
      go_wp2_with fail
      go_region_with (go_at_call 10; refine (C.out _ (H.out.keeps (((Keeps.refl (fun _ => False) _).alloc _).drew) fun _ _ => id)).mono ?_; rintro e w2 ⟨rfl, ⟨F', h2, f2⟩, k2⟩)
      all_goals
        have k3 : Keeps (fun _ => False) w w2 := ((hk.alloc _).drew).new k2 hf
        have f3 : ∀ b, F' b → w.heap.size ≤ b := fun b hb => (f2 b hb).elim (hf b) fun hh => Nat.le_trans ((hk.alloc _).drew).size hh
        have H2 := Lib.hid h2
        clear C H h2 f2 k2 hf hk hcv x1 x2 x3 x4 q1
        go_wp2
        go_roundw
        case rel => exact ⟨k + 1, F', by go_num, by omega, H2.out, f3, k3⟩
        case measure => simp [intOf]; omega
    · obtain rfl : k = n := by omega
      have hr0 : NextRel w p k (.int .i64 0) wr := ⟨bytL zs 1 k, F, 0, rfl, by rw [bytL_length]; omega, bytL_uniq _ _ _ (by omega), fun x hx => by
        obtain ⟨i, _, rfl⟩ := bytL_mem hx
        have := HZ.out i
        exact ⟨by show 1 ≤ zs.getD i 0 + 1; omega, by show zs.getD i 0 + 1 ≤ 256; omega⟩, h, hf, hk⟩
      have HR0 := Lib.hid hr0
      clear hr0 h hf hk HC HZ hn1 h0 hb hlt
      go_wp2_with fail
      go_loopw [6] (fun iv wr => NextRel w p k iv wr) (fun iv _ => k - (intOf iv).toNat)
      case atStart => exact HR0.out
      case round =>
        clear HR0
        obtain ⟨L, F, j, rfl, hjl, hu, hz, h, hf, hk⟩ := hrel
        by_cases hlt : j < k
        · obtain ⟨⟨mi, ma⟩, hm⟩ : ∃ m, minL L = some m := by
            cases e : minL L with
            | none => have := minL_none e; subst this; simp at hjl; omega
            | some m => exact ⟨m, rfl⟩
          have hmem := minL_mem hm
          obtain ⟨z0, z1⟩ := hz _ hmem
          have c1 := nextL h
          rw [hm] at c1
          have C1 := Lib.hid c1
          have H := Lib.hid h
          have hlen : L.length ≤ 2000 := by omega
          have hat : atL L mi = some ma := at_uniq hu hmem
          have hd1 : dueL (ma - 1) L = ([], L) := dueL_late hm (by show ¬ ma ≤ ma - 1; omega)
          have hd2 := dueL_some hm (now := ma) (Int.le_refl _)
          obtain ⟨out, rest, hor⟩ : ∃ out rest, dueL ma (delL L mi) = (out, rest) := ⟨_, _, rfl⟩
          have hd2' : dueL ma L = (mi :: out, rest) := by rw [hd2]; show (mi :: (dueL ma (delL L mi)).1, (dueL ma (delL L mi)).2) = _; rw [hor]
          have hcount := due_count ma hu
          have hrest := due_rest ma hu
          rw [hd2'] at hcount hrest
          have c2 := fun q => dueL_any (h.drewN q) hlen (ma - 1)
          rw [hd1] at c2
          have C2 := Lib.hid c2
          have HA := Lib.hid hat
          have HU := Lib.hid hu
          have HD := Lib.hid hd2'
          have HCt := Lib.hid hcount
          have HRs := Lib.hid hrest
          have HJ := Lib.hid hjl
          have HZ := Lib.hid hz
          clear c1 c2 h hat hd1 hd2 hd2' hor hm hmem hcount hrest hu hz hjl
          go_wp2_with fail
          refine C1.out.mono ?_; rintro e w1 ⟨rfl, q, rfl⟩
          have k1 := hk.drewN q
          clear hk C1 H
          simp only [nextV]
          go_wp2_with fail
          refine (C2.out q).mono ?_; rintro e w2 ⟨⟨sv, rfl, _, hsv⟩, ⟨F2, h2, f2⟩, k2⟩
          obtain rfl := hsv (by first | rfl | trivial)
          have k2' := k1.new k2 hf
          have f2' : ∀ b, F2 b → w.heap.size ≤ b := fun b hb => hf b (f2 b hb)
          have c3 := atL_any h2 mi
          rw [HA.out] at c3
          have C3 := Lib.hid c3
          have c4 := dueL_any h2 hlen ma
          rw [HD.out] at c4
          have C4 := Lib.hid c4
          clear c3 c4 h2 f2 k2 k1 hf hsv C2
          go_wp2_with fail
          refine C3.out.mono ?_; rintro e w3 ⟨rfl, rfl⟩
          simp only [Option.getD_some, Option.isSome_some]
          go_wp2_with fail
          refine C4.out.mono ?_; rintro e w3 ⟨⟨sv, rfl, ho, _⟩, ⟨F3, h3, f3⟩, k3⟩
          have k3' := k2'.new k3 f2'
          have f3' : ∀ b, F3 b → w.heap.size ≤ b := fun b hb => f2' b (f3 b hb)
          obtain ⟨a, c', rfl⟩ := slice_of_owns ho (by simp)
          have o0 : w3.cell? ⟨a, 0, none⟩ = some (.string mi) := by rw [ho.cellAt 0 (by simp)]; rfl
          have hl : ((mi :: out).length) = out.length + 1 := rfl
          rw [hl]
          generalize hgl : out.length = ol
          have HGl := Lib.hid hgl
          have H3 := Lib.hid h3
          have hol : ol ≤ 2000 := by have := HCt.out; have e := HGl.out; simp only [List.length_cons] at this; omega
          clear ho h3 f3 k3 k2' f2' C3 C4 hl hgl
          go_wp2
          go_roundw
          case rel =>
            have e1 := HCt.out
            have e2 := HGl.out
            have e3 := HJ.out
            simp only [List.length_cons] at e1
            exact ⟨rest, F3, j + ol + 1, by go_num, by omega, HRs.out.1, fun x hx => HZ.out x (HRs.out.2.1 x hx).1, H3.out, f3', k3'⟩
          case measure => simp [intOf]; omega
        · have e : L = [] := List.eq_nil_of_length_eq_zero (by omega)
          subst e
          have hjk : j = k := by simpa using hjl
          subst hjk
          have C1 := Lib.hid (nextL h)
          have H := Lib.hid h
          clear h hf hu hz hjl hlt
          go_wp2_with fail
          refine C1.out.mono ?_; rintro e w1 ⟨rfl, q, rfl⟩
          have C2 := Lib.hid (lenL (H.out.drewN q))
          have k1 := hk.drewN q
          clear C1 hk H
          simp only [nextV, minL]
          go_wp2_with fail
          refine C2.out.mono ?_; rintro e w2 ⟨rfl, rfl⟩
          clear C2
          go_wp2
          go_ret
          exact ⟨rfl, k1⟩
set_option maxHeartbeats 1000000 in
theorem next_nil (w : World) : Calls Try.prog 7 #[.slice none 0 0] w fun e w' => e = .returned (.bool true) ∧ Keeps (fun _ => False) w w' := by
  go_enter Try.func7, Try.ntmps7
  go_wp2_with fail
  refine (examples_any w).mono ?_; rintro e w1 ⟨rfl, k1⟩
  go_wp2_with fail
  refine (newL w1).mono ?_; rintro e w0 ⟨p, F0, rfl, h0, f0, k0⟩
  have k0' : Keeps (fun _ => False) w w0 := k1.trans k0
  clear k0 f0 k1
  go_wp2_with fail
  refine wp_loop_rounds 1 ?_
  rw [rounds_succ]
  go_wp2_with fail
  refine wp_loop_rounds 1 ?_
  rw [rounds_succ]
  have C1 := Lib.hid (nextL h0)
  have H := Lib.hid h0
  clear h0
  go_wp2_with fail
  refine C1.out.mono ?_; rintro e w1 ⟨rfl, q, rfl⟩
  have C2 := Lib.hid (lenL (H.out.drewN q))
  have k1 := k0'.drewN q
  clear C1 k0' H
  simp only [nextV, minL]
  go_wp2_with fail
  refine C2.out.mono ?_; rintro e w2 ⟨rfl, rfl⟩
  clear C2
  go_wp2
  go_ret
  exact ⟨rfl, k1⟩
set_option maxHeartbeats 1000000 in
theorem next_none (x : Addr) (c : Nat) (w : World) : Calls Try.prog 7 #[.slice (some x) 0 c] w fun e w' => e = .returned (.bool true) ∧ Keeps (fun _ => False) w w' := by
  go_enter Try.func7, Try.ntmps7
  go_wp2_with fail
  refine (examples_any w).mono ?_; rintro e w1 ⟨rfl, k1⟩
  go_wp2_with fail
  refine (newL w1).mono ?_; rintro e w0 ⟨p, F0, rfl, h0, f0, k0⟩
  have k0' : Keeps (fun _ => False) w w0 := k1.trans k0
  clear k0 f0 k1
  go_wp2_with fail
  refine wp_loop_rounds 1 ?_
  rw [rounds_succ]
  go_wp2_with fail
  refine wp_loop_rounds 1 ?_
  rw [rounds_succ]
  have C1 := Lib.hid (nextL h0)
  have H := Lib.hid h0
  clear h0
  go_wp2_with fail
  refine C1.out.mono ?_; rintro e w1 ⟨rfl, q, rfl⟩
  have C2 := Lib.hid (lenL (H.out.drewN q))
  have k1 := k0'.drewN q
  clear C1 k0' H
  simp only [nextV, minL]
  go_wp2_with fail
  refine C2.out.mono ?_; rintro e w2 ⟨rfl, rfl⟩
  clear C2
  go_wp2
  go_ret
  exact ⟨rfl, k1⟩
end Go.Proofs.Ytfecgibdhglhiaa
