/-
  The walk of the examples that stand ahead of each statement of chapter 7: they answer true, and nothing that was there turns.
  No condition.
-/
import Derived.Test.YtfecgibdhglhiaaApi
namespace Go.Proofs.Ytfecgibdhglhiaa
open Go.RowKit
def sA : ByteArray := ⟨#[97]⟩
def sB : ByteArray := ⟨#[98]⟩
def sC : ByteArray := ⟨#[99]⟩
theorem bad_eq (k : ByteArray) : bad k = (decide (k.data.size = 0) || decide (64 < k.data.size)) := by
  unfold bad
  rw [ByteArray.toList_eq]
  congr 1
  obtain ⟨d⟩ := k
  show d.toList.isEmpty = decide (d.size = 0)
  rw [Bool.eq_iff_iff]
  simp
theorem ex1 : setE [] ByteArray.empty = 1 := by unfold setE; rw [bad_eq]; rfl
theorem ex1' (a : Int) : setL [] ByteArray.empty a = [] := by unfold setL; rw [ex1]; rfl
theorem ex2 : setE [] ⟨#[98]⟩ = 0 := by unfold setE; rw [bad_eq]; rfl
theorem ex2' (a : Int) : setL [] ⟨#[98]⟩ a = [(⟨#[98]⟩, a)] := by unfold setL; rw [ex2]; rfl
theorem ex3 (x : Int) : setE [(⟨#[98]⟩, x)] ⟨#[97]⟩ = 0 := by unfold setE; rw [bad_eq]; rfl
theorem ex3' (x a : Int) : setL [(⟨#[98]⟩, x)] ⟨#[97]⟩ a = [(⟨#[98]⟩, x), (⟨#[97]⟩, a)] := by unfold setL; rw [ex3]; rfl
theorem ex4 (x y : Int) : setE [(⟨#[98]⟩, x), (⟨#[97]⟩, y)] ⟨#[99]⟩ = 0 := by unfold setE; rw [bad_eq]; rfl
theorem ex4' (x y a : Int) : setL [(⟨#[98]⟩, x), (⟨#[97]⟩, y)] ⟨#[99]⟩ a = [(⟨#[98]⟩, x), (⟨#[97]⟩, y), (⟨#[99]⟩, a)] := by unfold setL; rw [ex4]; rfl
theorem ex5 : dueL 5 [(⟨#[98]⟩, 5), (⟨#[97]⟩, 5), (⟨#[99]⟩, 3)] = ([⟨#[99]⟩, ⟨#[98]⟩, ⟨#[97]⟩], []) := by
  rw [dueL_some (m := (⟨#[99]⟩, 3)) rfl (by decide), show delL [((⟨#[98]⟩ : ByteArray), (5 : Int)), (⟨#[97]⟩, 5), (⟨#[99]⟩, 3)] ⟨#[99]⟩ = [(⟨#[98]⟩, 5), (⟨#[97]⟩, 5)] from rfl,
    dueL_some (m := (⟨#[98]⟩, 5)) rfl (by decide), show delL [((⟨#[98]⟩ : ByteArray), (5 : Int)), (⟨#[97]⟩, 5)] ⟨#[98]⟩ = [(⟨#[97]⟩, 5)] from rfl,
    dueL_some (m := (⟨#[97]⟩, 5)) rfl (by decide), show delL [((⟨#[97]⟩ : ByteArray), (5 : Int))] ⟨#[97]⟩ = [] from rfl, dueL_none rfl]
theorem hasL_nil {k : ByteArray} : hasL [] k = false := rfl
section
theorem Keeps.new {F : Nat → Prop} {w a b : World} (h : Keeps (fun _ => False) w a) (k : Keeps F a b) (hF : ∀ i, F i → w.heap.size ≤ i) : Keeps (fun _ => False) w b :=
  h.trans' k fun i hi hf => by have := hF i hf; omega
set_option maxHeartbeats 1000000 in
theorem examples_any (w : World) : Calls Try.prog 8 #[] w fun e w' => e = .returned (.bool true) ∧ Keeps (fun _ => False) w w' := by
  go_enter Try.func8, Try.ntmps8
  go_wp2_with fail
  refine (newL w).mono ?_; rintro e w0 ⟨p, F0, rfl, h0, f0, k0⟩
  have c := nextL h0
  have C := Lib.hid c
  have H0 := Lib.hid h0
  clear c h0
  go_wp2_with fail
  refine C.out.mono ?_; rintro e w1 ⟨rfl, n1, rfl⟩
  have h1 := H0.out.drewN n1
  have k1 := k0.drewN n1
  have c := setL_any h1 (by simp) (by omega) ByteArray.empty 1
  rw [ex1, ex1'] at c
  have C := Lib.hid c
  clear c h1 H0 k0
  simp only [nextV, minL]
  go_wp2_with fail
  refine C.out.mono ?_; rintro e w2 ⟨rfl, ⟨F2, h2, f2⟩, k2⟩
  have f2' : ∀ b, F2 b → w.heap.size ≤ b := fun b hb => (f2 b hb).elim (f0 b) fun h => Nat.le_trans k1.size h
  have k2' := k1.new k2 f0
  have c := setL_any h2 (by simp) (by omega) ⟨#[98]⟩ 5
  rw [ex2, ex2'] at c
  have C := Lib.hid c
  clear c h2 f2 k2 k1 f0
  go_wp2_with fail
  refine C.out.mono ?_; rintro e w3 ⟨rfl, ⟨F3, h3, f3⟩, k3⟩
  have f3' : ∀ b, F3 b → w.heap.size ≤ b := fun b hb => (f3 b hb).elim (f2' b) fun h => Nat.le_trans k2'.size h
  have k3' := k2'.new k3 f2'
  have c := setL_any h3 (by simp) (by omega) ⟨#[97]⟩ 5
  rw [ex3, ex3'] at c
  have C := Lib.hid c
  clear c h3 f3 k3 k2' f2'
  go_wp2_with fail
  refine C.out.mono ?_; rintro e w4 ⟨rfl, ⟨F4, h4, f4⟩, k4⟩
  have f4' : ∀ b, F4 b → w.heap.size ≤ b := fun b hb => (f4 b hb).elim (f3' b) fun h => Nat.le_trans k3'.size h
  have k4' := k3'.new k4 f3'
  have c := setL_any h4 (by simp) (by omega) ⟨#[99]⟩ 3
  rw [ex4, ex4'] at c
  have C := Lib.hid c
  clear c h4 f4 k4 k3' f3'
  go_wp2_with fail
  refine C.out.mono ?_; rintro e w5 ⟨rfl, ⟨F5, h5, f5⟩, k5⟩
  have f5' : ∀ b, F5 b → w.heap.size ≤ b := fun b hb => (f5 b hb).elim (f4' b) fun h => Nat.le_trans k4'.size h
  have k5' := k4'.new k5 f4'
  have c := dueL_any h5 (by simp) 5
  rw [ex5] at c
  have C := Lib.hid c
  clear c h5 f5 k5 k4' f4'
  go_wp2_with fail
  refine C.out.mono ?_; rintro e w6 ⟨⟨sv, rfl, ho, _⟩, ⟨F6, h6, f6⟩, k6⟩
  have f6' : ∀ b, F6 b → w.heap.size ≤ b := fun b hb => f5' b (f6 b hb)
  have k6' := k5'.new k6 f5'
  have k5s := k5'.size
  obtain ⟨a, c, rfl⟩ := slice_of_owns ho (by simp)
  have o0 : w6.cell? ⟨a, 0, none⟩ = some (.string ⟨#[99]⟩) := by rw [ho.cellAt 0 (by simp)]; rfl
  have o1 : w6.cell? ⟨a, 1, none⟩ = some (.string ⟨#[98]⟩) := by rw [ho.cellAt 1 (by simp)]; rfl
  have hs := stopL h6 (by simp) ⟨#[97]⟩
  have hl := hasL_nil (k := ⟨#[97]⟩)
  rw [hl, show delL ([] : List IA) ⟨#[97]⟩ = [] from rfl] at hs
  have C1 := Lib.hid hs
  clear ho h6 f6 k6 k5' f5' hs hl C
  go_wp2_with fail
  refine C1.out.mono ?_; rintro e w7 ⟨rfl, ⟨F7, h7, f7⟩, k7⟩
  have k7' := k6'.new k7 f6'
  have C2 := Lib.hid (lenL h7)
  clear k6' C1 k7 h7 f7 f6' o0 o1
  go_wp2_with fail
  refine C2.out.mono ?_; rintro e w8 ⟨rfl, rfl⟩
  clear C2
  go_wp2
  go_ret
  exact ⟨rfl, k7'⟩
end
end Go.Proofs.Ytfecgibdhglhiaa
