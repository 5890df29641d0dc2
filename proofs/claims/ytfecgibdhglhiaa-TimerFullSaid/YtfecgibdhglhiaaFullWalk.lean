/-
  The walk of the statement TimerFull: it answers true, and nothing that was there turns.
  No condition.
-/
import Derived.Test.YtfecgibdhglhiaaPlain
namespace Go.Proofs.Ytfecgibdhglhiaa
open Go.RowKit
theorem conv1 (W : World) (x : Int) : Sem.run Try.prog (convert 22 9 (.slice (some ⟨W.heap.size, 0, none⟩) 1 1)) (W.alloc (.cells #[.int .u8 x] 5)) = .ok (.string (strOfNums [x])) (W.alloc (.cells #[.int .u8 x] 5)) :=
  run_convert_bytes_arg _ 22 5 Try.underlying22 Try.underlying5 _ 0 1 1 [x] rfl (fun i hi => by
    obtain rfl : i = 0 := by omega
    rw [Nat.zero_add, World.cell?_alloc_at _ _ _ _ rfl]; rfl) 9 Try.underlying9
theorem conv2 (W : World) (x y : Int) : Sem.run Try.prog (convert 22 9 (.slice (some ⟨W.heap.size, 0, none⟩) 2 2)) (W.alloc (.cells #[.int .u8 x, .int .u8 y] 5)) = .ok (.string (strOfNums [x, y])) (W.alloc (.cells #[.int .u8 x, .int .u8 y] 5)) :=
  run_convert_bytes_arg _ 22 5 Try.underlying22 Try.underlying5 _ 0 2 2 [x, y] rfl (fun i hi => by
    obtain rfl | rfl : i = 0 ∨ i = 1 := by omega
    · rw [Nat.zero_add, World.cell?_alloc_at _ _ _ _ rfl]; rfl
    · rw [Nat.zero_add, World.cell?_alloc_at _ _ _ _ rfl]; rfl) 9 Try.underlying9
def FullRel (w : World) (p : Nat) (iv : Value) (wr : World) : Prop := ∃ (n : Nat) (F : Nat → Prop), iv = .int .i64 n ∧ n ≤ 1024 ∧ Tm wr F p (fullL n) n ∧ (∀ b, F b → w.heap.size ≤ b) ∧ Keeps (fun _ => False) w wr
theorem keyF_eq (n : Nat) : strOfNums [(n : Int) / 32, 48 + (n : Int) % 32] = keyF n := rfl
set_option maxRecDepth 100000 in
set_option maxHeartbeats 1000000 in
theorem full_any (w : World) (at_ : Int) : Calls Try.prog 6 #[.int .u64 at_] w fun e w' => e = .returned (.bool true) ∧ Keeps (fun _ => False) w w' := by
  go_enter Try.func6, Try.ntmps6
  go_wp2_with fail
  refine (examples_any w).mono ?_; rintro e w1 ⟨rfl, k1⟩
  go_wp2_with fail
  refine (newL w1).mono ?_; rintro e w0 ⟨p, F0, rfl, h0, f0, k0⟩
  have k0' : Keeps (fun _ => False) w w0 := k1.trans k0
  have f0' : ∀ b, F0 b → w.heap.size ≤ b := fun b hb => Nat.le_trans k1.size (f0 b hb)
  clear k0 f0 k1
  go_wp2_with fail
  go_loopw [5] (fun iv wr => FullRel w p iv wr) (fun iv _ => 1024 - (intOf iv).toNat)
  case atStart => exact ⟨0, F0, rfl, by omega, h0, f0', k0'⟩
  case round =>
    clear h0 f0' k0'
    obtain ⟨n, F, rfl, hn, h, hf, hk⟩ := hrel
    by_cases hlt : n < 1024
    · have hcv := conv2
      have c0 := fun W (hw : Tm W F p (fullL n) n) => setL_any hw (by rw [fullL_length]; omega) (by omega) (keyF n) n
      rw [full_setE hlt, full_setL hlt] at c0
      have C := Lib.hid c0
      have H := Lib.hid h
      clear c0 h
      go_wp2_with fail
      rw [keyF_eq]
      refine (C.out _ (H.out.keeps (((Keeps.refl (fun _ => False) _)).alloc _) fun _ _ => id)).mono ?_
      rintro e w2 ⟨rfl, ⟨F', h2, f2⟩, k2⟩
      have k3 : Keeps (fun _ => False) w w2 := (hk.alloc _).new k2 hf
      have f3 : ∀ b, F' b → w.heap.size ≤ b := fun b hb => (f2 b hb).elim (hf b) fun hh => Nat.le_trans (hk.alloc _).size hh
      have H2 := Lib.hid h2
      clear C H h2 f2 k2 hf hk hcv
      go_wp2
      go_roundw
      case rel => exact ⟨n + 1, F', by go_num, by omega, H2.out, f3, k3⟩
      case measure => simp [intOf]; omega
    · obtain rfl : n = 1024 := by omega
      have c := setL_any h (by rw [fullL_length]; omega) (by omega) kNew at_
      rw [end1, end1'] at c
      have C := Lib.hid c
      clear c h hlt
      unfold kNew at C
      go_wp2_with fail
      refine C.out.mono ?_; rintro e w2 ⟨rfl, ⟨F2, h2, f2⟩, k2⟩
      have f2' : ∀ b, F2 b → w.heap.size ≤ b := fun b hb => (f2 b hb).elim (hf b) fun hh => Nat.le_trans hk.size hh
      have k2' := hk.new k2 hf
      have c := setL_any h2 (by rw [fullL_length]; omega) (by omega) (keyF 96) at_
      rw [end2, end2', key96] at c
      have C := Lib.hid c
      clear c h2 f2 k2 hk hf
      go_wp2_with fail
      refine C.out.mono ?_; rintro e w3 ⟨rfl, ⟨F3, h3, f3⟩, k3⟩
      have f3' : ∀ b, F3 b → w.heap.size ≤ b := fun b hb => (f3 b hb).elim (f2' b) fun hh => Nat.le_trans k2'.size hh
      have k3' := k2'.new k3 f2'
      have c := stopL h3 (by rw [L1_length]; omega) (keyF 0)
      rw [end3, show delL (L1 at_) (keyF 0) = L2 at_ from rfl, key0] at c
      have C := Lib.hid c
      clear c h3 f3 k3 k2' f2'
      go_wp2_with fail
      refine C.out.mono ?_; rintro e w4 ⟨rfl, ⟨F4, h4, f4⟩, k4⟩
      have f4' : ∀ b, F4 b → w.heap.size ≤ b := fun b hb => f3' b (f4 b hb)
      have k4' := k3'.new k4 f3'
      have c := setL_any h4 (by rw [L2_length]; omega) (by omega) kNew at_
      rw [end4, end4'] at c
      have C := Lib.hid c
      clear c h4 f4 k4 k3' f3'
      unfold kNew at C
      go_wp2_with fail
      refine C.out.mono ?_; rintro e w5 ⟨rfl, ⟨F5, h5, f5⟩, k5⟩
      have k5' := k4'.new k5 f4'
      have h5' : Tm w5 F5 p (L2 at_ ++ [(kNew, at_)]) _ := h5
      have c := atL_any h5' kNew
      rw [end5] at c
      have C := Lib.hid c
      have c2 := lenL h5'
      rw [end6] at c2
      have C2 := Lib.hid c2
      clear c h5 f5 k5 k4' f4' c2 h5'
      unfold kNew at C
      go_wp2_with fail
      refine C.out.mono ?_; rintro e w6 ⟨rfl, rfl⟩
      go_wp2_with fail
      refine C2.out.mono ?_; rintro e w6 ⟨rfl, rfl⟩
      clear C C2
      go_wp2
      go_ret
      exact ⟨rfl, k5'⟩
end Go.Proofs.Ytfecgibdhglhiaa
