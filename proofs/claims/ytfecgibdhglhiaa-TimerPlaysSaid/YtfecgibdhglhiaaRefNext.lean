/-
  The document's timers: 'At' and 'Next'.
  Conditions: at most 2000 timers.
-/
import Derived.Test.YtfecgibdhglhiaaRef
namespace Go.Proofs.Ytfecgibdhglhiaa
open Go.RowKit
theorem at_find {L : List IA} {k : ByteArray} (h : findN L k < L.length) : atL L k = some L[findN L k].2 := by
  unfold atL
  have hk : decide (L[findN L k].1 = k) = true := List.findIdx_getElem (p := fun x : IA => decide (x.1 = k)) (xs := L) (w := h)
  have : L.find? (fun x => decide (x.1 = k)) = some L[findN L k] := by
    rw [List.find?_eq_some_iff_getElem]
    exact ⟨hk, findN L k, h, rfl, fun j hj => by have := List.not_of_lt_findIdx hj; simpa using this⟩
  rw [this]; rfl
theorem at_nohas {L : List IA} {k : ByteArray} (h : hasL L k = false) : atL L k = none := by
  unfold atL
  rw [List.find?_eq_none.2]; · rfl
  unfold hasL at h
  rw [List.any_eq_false] at h
  exact h
set_option maxHeartbeats 1000000 in
theorem rAt {w : World} {r : Nat} {sv : Value} {L : List IA} (h : RefAt w r sv L) (hl : L.length ≤ 2000) (k : ByteArray) :
    Calls Try.prog 18 #[.pointer (some ⟨r, 0, none⟩), .string k] w fun e w' => e = .returned (.tuple #[.int .u64 ((atL L k).getD 0), .bool (atL L k).isSome]) ∧ w = w' := by
  cases hk : hasL L k with
  | false =>
    have hf : findI L k = -1 := by unfold findI; rw [if_neg (fun h => by rw [find_has.2 h] at hk; cases hk)]
    have C := find_walk h hl k
    rw [hf] at C
    have C := Lib.hid C
    rw [at_nohas hk]
    clear h hf hk
    go_enter Try.func18, Try.ntmps18
    go_wp2_with fail
    refine C.out.mono ?_; rintro e w1 ⟨rfl, rfl⟩
    go_wp2
    go_ret2
    exact ⟨rfl, rfl⟩
  | true =>
    have hlt := find_has.1 hk
    rw [at_find hlt]
    obtain ⟨at', hat⟩ : ∃ n, findN L k = n := ⟨_, rfl⟩
    have hf : findI L k = at' := by unfold findI; rw [if_pos hlt, hat]
    simp only [hat]
    rw [hat] at hlt
    have C := find_walk h hl k
    rw [hf] at C
    have C := Lib.hid C
    obtain ⟨b, off, c, rfl, g1, g2, g3, g4, g5⟩ := h.form (by omega)
    have hc : w.cell? ⟨r, 0, none⟩ = some (.slice (some ⟨b, off, none⟩) L.length c) := by rw [cell_at h.own]; rfl
    have hrl := h.lt
    obtain ⟨q1, q2⟩ := g5 at' hlt
    rw [← Nat.add_assoc] at q2
    have hlt' : (at' : Int) < L.length := by omega
    have y7 : ¬ ((at' : Int) < 0) := by omega
    obtain ⟨u, hu⟩ : ∃ u, L[at'].2 = u := ⟨_, rfl⟩
    rw [hu] at q2 ⊢
    clear h hf hk g5 q1 hu hat
    go_enter Try.func18, Try.ntmps18
    go_wp2_with fail
    refine C.out.mono ?_; rintro e w1 ⟨rfl, rfl⟩
    go_wp2
    go_ret2
    exact ⟨rfl, rfl⟩
def NextAt (w : World) (L : List IA) (x0 : IA) (iv : Value) (wr : World) : Prop :=
  ∃ (i : Nat) (m : IA), iv = .int .i64 i ∧ i ≤ L.length ∧ (L.drop i).foldl minF m = L.foldl minF x0 ∧ Keeps (fun _ => False) w wr ∧ wr.heap[w.heap.size]? = some (.cells #[.string m.1, .int .u64 m.2] 70 (0, 0))
set_option maxHeartbeats 1000000 in
theorem rNext {w : World} {r : Nat} {sv : Value} {L : List IA} (h : RefAt w r sv L) (hl : L.length ≤ 2000) :
    Calls Try.prog 21 #[.pointer (some ⟨r, 0, none⟩)] w fun e w' => e = .returned (nextV (minL L)) ∧ Keeps (fun _ => False) w w' := by
  cases L with
  | nil =>
    obtain ⟨va, vc, rfl, _⟩ := h.row.val
    have hc : w.cell? ⟨r, 0, none⟩ = some (.slice va 0 vc) := by rw [cell_at h.own]; rfl
    have hrl := h.lt
    clear h
    go_enter Try.func21, Try.ntmps21
    go_wp2
    go_ret3
    exact ⟨rfl, Keeps.refl _ _⟩
  | cons x0 L0 =>
    obtain ⟨L, hL⟩ : ∃ L, x0 :: L0 = L := ⟨_, rfl⟩
    have hmin : minL (x0 :: L0) = some (L.foldl minF x0) := by rw [← hL]; simp [minL, minF]
    rw [hmin]
    rw [hL] at h hl
    have h00 : 0 < L.length := by rw [← hL]; simp
    obtain ⟨b, off, c, rfl, g1, g2, g3, g4, g5⟩ := h.form h00
    have hc : w.cell? ⟨r, 0, none⟩ = some (.slice (some ⟨b, off, none⟩) L.length c) := by rw [cell_at h.own]; rfl
    have hrl := h.lt
    obtain ⟨q1, q2⟩ := g5 0 h00
    have hx0 : L[0] = x0 := by simp [← hL]
    rw [hx0] at q1 q2
    simp only [Nat.zero_mul, Nat.zero_add, Nat.add_zero] at q1 q2
    have H := Lib.hid h
    have G5 := Lib.hid g5
    have h00' : (0 : Int) < L.length := by omega
    have h00n : L.length ≠ 0 := by omega
    clear h g5 hx0 hL hmin
    go_enter Try.func21, Try.ntmps21
    go_wp2_with fail
    clear h00' h00n q1 q2
    go_loopw [6] (fun iv wr => NextAt w L x0 iv wr) (fun iv _ => L.length - (intOf iv).toNat)
    case atStart => exact ⟨0, x0, rfl, by omega, rfl, (Keeps.refl _ _).alloc _, heap_alloc_new _ _⟩
    case round =>
      obtain ⟨i, m, rfl, hil, hfold, hkk, hB⟩ := hrel
      have hcr : wr.cell? ⟨r, 0, none⟩ = some (.slice (some ⟨b, off, none⟩) L.length c) := by rw [cell_at ((hkk.block r hrl id).trans H.out.own)]; rfl
      have hc1 : wr.cell? ⟨w.heap.size, 0, none⟩ = some (.string m.1) := by rw [cell_at hB]; rfl
      have hc2 : wr.cell? ⟨w.heap.size, 1, none⟩ = some (.int .u64 m.2) := by rw [cell_at hB]; rfl
      have hf1 : wr.frozen? ⟨w.heap.size, 0, none⟩ = false := free_at hB _
      have hf2 : wr.frozen? ⟨w.heap.size, 1, none⟩ = false := free_at hB _
      have hBl : w.heap.size < wr.heap.size := lt_at hB
      have hrw : r < wr.heap.size := Nat.lt_of_lt_of_le hrl hkk.size
      have HB := Lib.hid hB
      have HK := Lib.hid hkk
      have HF := Lib.hid hfold
      clear hB hkk hfold
      by_cases hi : i < L.length
      · have hi' : (i : Int) < L.length := by omega
        have hq : wr.cell? ⟨b, off + i * 2, none⟩ = some (.string L[i].1) ∧ wr.cell? ⟨b, off + (i * 2 + 1), none⟩ = some (.int .u64 L[i].2) := by
          obtain ⟨b', o', c', e1, _, _, _, _, hh⟩ := (H.out.keeps HK.out id fun _ _ => id).form h00
          simp only [Value.slice.injEq, Option.some.injEq, Addr.mk.injEq, and_true, true_and] at e1
          obtain ⟨⟨rfl, rfl⟩, rfl⟩ := e1
          exact hh i hi
        obtain ⟨q1, q2⟩ := hq
        rw [← Nat.add_assoc] at q2
        have hbw : b < wr.heap.size := Nat.lt_of_lt_of_le g3 HK.out.size
        have hst : (L.drop i).foldl minF m = (L.drop (i + 1)).foldl minF (minF m L[i]) := by rw [List.drop_eq_getElem_cons hi]; rfl
        obtain ⟨x, hx⟩ : ∃ x, L[i] = x := ⟨_, rfl⟩
        rw [hx] at q1 q2 hst
        have HS := Lib.hid hst
        clear hst hx
        by_cases hlt : x.2 < m.2
        · have hd : decide (x.2 < m.2) = true := decide_eq_true hlt
          have hm : minF m x = x := by unfold minF; rw [if_pos hlt]
          have HM := Lib.hid hm
          clear hm
          go_wp2_with (go_quiet (fail))
          go_roundw
          case rel =>
            refine ⟨i + 1, x, by go_num, by omega, by rw [← HF.out, HS.out, HM.out], ((HK.out.drewN _).setCell (p := ⟨w.heap.size, 0, none⟩) (fun h => absurd h (Nat.lt_irrefl _)) _).setCell (p := ⟨w.heap.size, 1, none⟩) (fun h => absurd h (Nat.lt_irrefl _)) _, ?_⟩
            exact (block_same (block_same HB.out 0 (.string x.1)) 1 (.int .u64 x.2)).trans rfl
          case measure => simp [intOf]; omega
        · have hd : decide (x.2 < m.2) = false := decide_eq_false hlt
          have hm : minF m x = m := by unfold minF; rw [if_neg hlt]
          have HM := Lib.hid hm
          clear hm
          go_wp2_with (go_quiet (fail))
          go_roundw
          case rel => exact ⟨i + 1, m, by go_num, by omega, by rw [← HF.out, HS.out, HM.out], HK.out.drewN _, HB.out⟩
          case measure => simp [intOf]; omega
      · obtain rfl : i = L.length := by omega
        have hlt' : ¬ (L.length : Int) < L.length := by omega
        have HE := Lib.hid (show m = L.foldl minF x0 by rw [← HF.out]; simp)
        go_wp2_with (go_quiet (fail))
        go_ret3
        exact ⟨by rw [← HE.out]; rfl, HK.out.drewN _⟩
end Go.Proofs.Ytfecgibdhglhiaa
