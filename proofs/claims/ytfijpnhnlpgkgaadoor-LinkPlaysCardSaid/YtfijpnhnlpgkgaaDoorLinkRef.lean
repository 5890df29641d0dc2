/-
  The document's own link in memory, and its methods walked: New, Reset, Inject, Send, Take, Tick, Heard, Waiting, Space.
  Conditions: as in the contracts of the readers; fewer than a million epochs and ticks.
-/
import Derived.Test.YtfijpnhnlpgkgaaDoorLinkTwo
import Derived.Test.YtfijpnhnlpgkgaaDoorFeedsWalk
import Derived.Test.YtfijpnhnlpgkgaaDoorQuietWalk
import Derived.BigRegion
namespace Go.Proofs.YtfijpnhnlpgkgaaDoor
open Go.RowKit
structure Rx (W : World) (x : Nat) (s : Ls) (q t r0 r1 : Nat) : Prop where
  own : W.heap[x]? = some (.cells #[.slice (some ⟨q, 0, none⟩) 2 2, .slice (some ⟨t, 0, none⟩) 2 2, .int .u64 s.ep, .int .i64 s.gone] 70 (0, 0))
  wt : W.heap[q]? = some (.cells #[sV (s.wait 0), sV (s.wait 1)] 9 (0, 0))
  rp : W.heap[t]? = some (.cells #[ptrV r0, ptrV r1] 26 (0, 0))
  f0 : Rf W r0 (s.rest 0) 0
  f1 : Rf W r1 (s.rest 1) 0
  ne : r0 ≠ r1
  ok : ∀ k, k < 2 → (s.wait k).length ≤ 262144 ∧ (s.rest k).length < 65540
def RxF (x q t r0 r1 b : Nat) : Prop := b = x ∨ b = q ∨ b = t ∨ b = r0 ∨ b = r1
def RX (W : World) (F : Nat → Prop) (x : Nat) (s : Ls) : Prop := ∃ q t r0 r1, Rx W x s q t r0 r1 ∧ ∀ b, F b ↔ RxF x q t r0 r1 b
theorem cells_ne {W : World} {a b : Nat} {c1 c2 : Array Value} {t1 t2 : TypeId} {f1 f2 : Nat × Nat} (h1 : W.heap[a]? = some (.cells c1 t1 f1)) (h2 : W.heap[b]? = some (.cells c2 t2 f2)) (h : t1 ≠ t2) : a ≠ b := by
  rintro rfl
  rw [h1] at h2
  simp only [Option.some.injEq, Obj.cells.injEq] at h2
  exact h h2.2.1
section
variable {w W W2 : World} {x q t r0 r1 k : Nat} {s : Ls} {F : Nat → Prop}
theorem Rx.lt (h : Rx W x s q t r0 r1) {b : Nat} (hb : RxF x q t r0 r1 b) : b < W.heap.size := by
  rcases hb with rfl | rfl | rfl | rfl | rfl
  · exact lt_at h.own
  · exact lt_at h.wt
  · exact lt_at h.rp
  · exact lt_at h.f0
  · exact lt_at h.f1
theorem RX.lt (h : RX W F x s) {b : Nat} (hb : F b) : b < W.heap.size := by obtain ⟨q, t, r0, r1, h1, h2⟩ := h; exact h1.lt ((h2 b).1 hb)
theorem Rx.keeps (h : Rx W x s q t r0 r1) {Z : Nat → Prop} (hz : Keeps Z W W2) (hZ : ∀ b, RxF x q t r0 r1 b → ¬ Z b) : Rx W2 x s q t r0 r1 :=
  ⟨(hz.block _ (lt_at h.own) (hZ _ (.inl rfl))).trans h.own, (hz.block _ (lt_at h.wt) (hZ _ (.inr (.inl rfl)))).trans h.wt, (hz.block _ (lt_at h.rp) (hZ _ (.inr (.inr (.inl rfl))))).trans h.rp,
    h.f0.keeps hz (hZ _ (.inr (.inr (.inr (.inl rfl))))), h.f1.keeps hz (hZ _ (.inr (.inr (.inr (.inr rfl))))), h.ne, h.ok⟩
theorem RX.keeps (h : RX W F x s) {Z : Nat → Prop} (hz : Keeps Z W W2) (hZ : ∀ b, F b → ¬ Z b) : RX W2 F x s := by
  obtain ⟨q, t, r0, r1, h1, h2⟩ := h
  exact ⟨q, t, r0, r1, h1.keeps hz fun b hb => hZ b ((h2 b).2 hb), h2⟩
/-- what a method answers, and leaves -/
def ROut (F : Nat → Prop) (x : Nat) (s' : Ls) (W : World) (v : Value) (ev : Ending) (W2 : World) : Prop := ev = .returned v ∧ ∃ F', RX W2 F' x s' ∧ (∀ b, F' b → F b ∨ W.heap.size ≤ b) ∧ Keeps F W W2
end
set_option maxRecDepth 100000 in
set_option maxHeartbeats 1000000 in
theorem rreset_any {w : World} {x : Nat} {c0 c1 : Value} {ep gone : Int} (h : w.heap[x]? = some (.cells #[c0, c1, .int .u64 ep, .int .i64 gone] 70 (0, 0))) (he : 0 ≤ ep ∧ ep ≤ 1000000) :
    Calls Tryd.prog 42 #[.pointer (some ⟨x, 0, none⟩)] w fun e w' => e = .returned (.tuple #[]) ∧ (∃ F, RX w' F x (zeroS (ep + 1)) ∧ ∀ b, F b → b = x ∨ w.heap.size ≤ b) ∧ Keeps (fun b => b = x) w w' := by
  have hp := lt_at h
  have d0 : w.cell? ⟨x, 0, none⟩ = some c0 := by rw [cell_at h]; rfl
  have d1 : w.cell? ⟨x, 1, none⟩ = some c1 := by rw [cell_at h]; rfl
  have d2 : w.cell? ⟨x, 2, none⟩ = some (.int .u64 ep) := by rw [cell_at h]; rfl
  have d3 : w.cell? ⟨x, 3, none⟩ = some (.int .i64 gone) := by rw [cell_at h]; rfl
  have f0 := fun o => free_at h o
  have H := Lib.hid h
  clear h
  go_enter Tryd.func42, Tryd.ntmps42
  go_upto_region 1 with fail
  obtain ⟨W1, hW1⟩ : ∃ W1, (w.setCell ⟨x, 0, none⟩ (.slice (some ⟨w.heap.size, 0, none⟩) 2 2)).alloc (.cells #[.string ⟨#[]⟩, .string ⟨#[]⟩] 9) = W1 := ⟨_, rfl⟩
  have g1 : W1.heap[x]? = some (.cells #[.slice (some ⟨w.heap.size, 0, none⟩) 2 2, c1, .int .u64 ep, .int .i64 gone] 70 (0, 0)) := by
    rw [← hW1, Below.heap_alloc _ _ _ (by simp; omega), block_same H.out]; rfl
  have g2 : W1.heap[w.heap.size]? = some (.cells #[sV [], sV []] 9 (0, 0)) := by
    rw [← hW1]
    have := heap_alloc_new (w.setCell ⟨x, 0, none⟩ (.slice (some ⟨w.heap.size, 0, none⟩) 2 2)) (.cells #[.string ⟨#[]⟩, .string ⟨#[]⟩] 9)
    rw [show (w.setCell ⟨x, 0, none⟩ (.slice (some ⟨w.heap.size, 0, none⟩) 2 2)).heap.size = w.heap.size by simp] at this
    exact this
  have g3 : Keeps (fun b => b = x) w W1 := by rw [← hW1]; exact ((Keeps.refl (fun b => b = x) w).setCell (p := ⟨x, 0, none⟩) (fun _ => rfl) _).alloc _
  have g4 : W1.heap.size = w.heap.size + 1 := by rw [← hW1]; simp
  rw [hW1]
  have G := Lib.hid (⟨g1, g2, g3, g4⟩ : _ ∧ _ ∧ _ ∧ _)
  have hx1 : x < W1.heap.size := by omega
  have e1 : ∀ a b c, (((W1.alloc a).alloc b).alloc c).cell? ⟨x, 1, none⟩ = some c1 := fun a b c => by
    rw [cell_at ((Below.heap_alloc _ _ _ (by simp; omega)).trans ((Below.heap_alloc _ _ _ (by simp; omega)).trans ((Below.heap_alloc _ _ _ hx1).trans g1)))]; rfl
  have e2 : ∀ a b c, (((W1.alloc a).alloc b).alloc c).frozen? ⟨x, 1, none⟩ = false := fun a b c =>
    free_at ((Below.heap_alloc _ _ _ (by simp; omega)).trans ((Below.heap_alloc _ _ _ (by simp; omega)).trans ((Below.heap_alloc _ _ _ hx1).trans g1))) 1
  clear g1 g2 g3 g4 hW1 d0 d1 d2 d3 f0
  go_upto_region 2 with fail
  obtain ⟨W2, hW2⟩ : ∃ W2, (((W1.alloc (.cells #[.string ⟨#[]⟩, .int .i64 0] 28)).alloc (.cells #[.string ⟨#[]⟩, .int .i64 0] 28)).alloc (.cells #[.pointer (some ⟨W1.heap.size, 0, none⟩), .pointer (some ⟨W1.heap.size + 1, 0, none⟩)] 26)).setCell ⟨x, 1, none⟩ (.slice (some ⟨W1.heap.size + 1 + 1, 0, none⟩) 2 2) = W2 := ⟨_, rfl⟩
  obtain ⟨g1, g2, g3, g4⟩ := G.out
  have a1 : (W1.alloc (.cells #[.string ⟨#[]⟩, .int .i64 0] 28)).heap.size = W1.heap.size + 1 := by simp
  have a2 : ((W1.alloc (.cells #[.string ⟨#[]⟩, .int .i64 0] 28)).alloc (.cells #[.string ⟨#[]⟩, .int .i64 0] 28)).heap.size = W1.heap.size + 1 + 1 := by simp
  have k1 : W2.heap[x]? = some (.cells #[.slice (some ⟨w.heap.size, 0, none⟩) 2 2, .slice (some ⟨W1.heap.size + 1 + 1, 0, none⟩) 2 2, .int .u64 ep, .int .i64 gone] 70 (0, 0)) := by
    rw [← hW2, block_same ((Below.heap_alloc _ _ _ (by simp; omega)).trans ((Below.heap_alloc _ _ _ (by simp; omega)).trans ((Below.heap_alloc _ _ _ hx1).trans g1)))]; rfl
  have k2 : W2.heap[W1.heap.size]? = some (.cells #[.string ⟨#[]⟩, .int .i64 0] 28 (0, 0)) := by
    rw [← hW2, block_other _ _ _ _ (by omega), Below.heap_alloc _ _ _ (by simp; omega), Below.heap_alloc _ _ _ (by simp)]
    exact heap_alloc_new W1 _
  have k3 : W2.heap[W1.heap.size + 1]? = some (.cells #[.string ⟨#[]⟩, .int .i64 0] 28 (0, 0)) := by
    rw [← hW2, block_other _ _ _ _ (by omega), Below.heap_alloc _ _ _ (by simp), ← a1]
    exact heap_alloc_new _ _
  have k4 : W2.heap[W1.heap.size + 1 + 1]? = some (.cells #[ptrV W1.heap.size, ptrV (W1.heap.size + 1)] 26 (0, 0)) := by
    rw [← hW2, block_other _ _ _ _ (by omega), ← a2]
    exact heap_alloc_new _ _
  have k5 : Keeps (fun b => b = x) w W2 := by
    rw [← hW2]
    exact g3.trans' (((((Keeps.refl (fun b => b = x) W1).alloc _).alloc _).alloc _).setCell (p := ⟨x, 1, none⟩) (fun _ => rfl) _) fun _ _ h => h
  have k6 : W2.heap[w.heap.size]? = some (.cells #[sV [], sV []] 9 (0, 0)) := by
    rw [← hW2, block_other _ _ _ _ (by omega), Below.heap_alloc _ _ _ (by simp; omega), Below.heap_alloc _ _ _ (by simp; omega), Below.heap_alloc _ _ _ (by omega)]
    exact g2
  have hend : (∃ F, RX ((W2.setCell ⟨x, 2, none⟩ (.int .u64 (ep + 1))).setCell ⟨x, 3, none⟩ (.int .i64 0)) F x (zeroS (ep + 1)) ∧ ∀ b, F b → b = x ∨ w.heap.size ≤ b) ∧ Keeps (fun b => b = x) w ((W2.setCell ⟨x, 2, none⟩ (.int .u64 (ep + 1))).setCell ⟨x, 3, none⟩ (.int .i64 0)) := by
    have ho : ∀ b, b ≠ x → ((W2.setCell ⟨x, 2, none⟩ (.int .u64 (ep + 1))).setCell ⟨x, 3, none⟩ (.int .i64 0)).heap[b]? = W2.heap[b]? := fun b hb => by rw [block_other _ _ _ _ hb, block_other _ _ _ _ hb]
    refine ⟨⟨_, ⟨w.heap.size, W1.heap.size + 1 + 1, W1.heap.size, W1.heap.size + 1, ⟨by rw [block_same (block_same k1 2 _)]; rfl, (ho _ (by omega)).trans k6, (ho _ (by omega)).trans k4, (ho _ (by omega)).trans k2, (ho _ (by omega)).trans k3, by omega, fun k _ => ⟨by simp [zeroS], by simp [zeroS]⟩⟩, fun _ => Iff.rfl⟩, fun b hb => ?_⟩,
      (k5.setCell (p := ⟨x, 2, none⟩) (fun _ => rfl) _).setCell (p := ⟨x, 3, none⟩) (fun _ => rfl) _⟩
    rcases hb with h | h | h | h | h <;> omega
  have HE := Lib.hid hend
  have f1 : W2.cell? ⟨x, 2, none⟩ = some (.int .u64 ep) := by rw [cell_at k1]; rfl
  have f2 : W2.cell? ⟨x, 3, none⟩ = some (.int .i64 gone) := by rw [cell_at k1]; rfl
  have f3 := fun o => free_at k1 o
  have f4 := lt_at k1
  rw [hW2]
  clear g1 g2 g3 g4 a1 a2 k1 k2 k3 k4 k5 k6 hend hW2 e1 e2 G hx1
  go_wp2_with fail
  go_end0
  exact ⟨rfl, HE.out⟩
theorem rnew8_any (w : World) : Calls Tryd.prog 33 #[] w fun e w' => ∃ x, e = .returned (.pointer (some ⟨x, 0, none⟩)) ∧ (∃ F, RX w' F x (zeroS 1) ∧ ∀ b, F b → w.heap.size ≤ b) ∧ Keeps (fun _ => False) w w' := by
  have C := Lib.hid (rreset_any (w := w.alloc (.cells #[.slice none 0 0, .slice none 0 0, .int .u64 0, .int .i64 0] 70)) (heap_alloc_new _ _) (by omega))
  go_enter Tryd.func33, Tryd.ntmps33
  go_wp2_with fail
  refine C.out.mono ?_; rintro e w1 ⟨rfl, ⟨F, h1, h2⟩, h3⟩
  have HE := Lib.hid (show (∃ F, RX w1 F w.heap.size (zeroS 1) ∧ ∀ b, F b → w.heap.size ≤ b) ∧ Keeps (fun _ => False) w w1 from ⟨⟨F, h1, fun b hb => by rcases h2 b hb with h | h; omega; (simp at h; omega)⟩, ((Keeps.refl _ _).alloc _).trans' h3 fun i hi e => by omega⟩)
  clear h1 h2 h3 C
  go_wp2_with fail
  go_ret
  exact ⟨_, rfl, HE.out⟩
section
variable {w W W2 : World} {x q t r0 r1 k : Nat} {s : Ls} {F : Nat → Prop}
theorem Rx.o0 (h : Rx W x s q t r0 r1) : W.cell? ⟨x, 0, none⟩ = some (.slice (some ⟨q, 0, none⟩) 2 2) := by rw [cell_at h.own]; rfl
theorem Rx.o1 (h : Rx W x s q t r0 r1) : W.cell? ⟨x, 1, none⟩ = some (.slice (some ⟨t, 0, none⟩) 2 2) := by rw [cell_at h.own]; rfl
theorem Rx.o2 (h : Rx W x s q t r0 r1) : W.cell? ⟨x, 2, none⟩ = some (.int .u64 s.ep) := by rw [cell_at h.own]; rfl
theorem Rx.o3 (h : Rx W x s q t r0 r1) : W.cell? ⟨x, 3, none⟩ = some (.int .i64 s.gone) := by rw [cell_at h.own]; rfl
theorem rx_w0 (h : Rx W x s q t r0 r1) : W.cell? ⟨q, 0, none⟩ = some (.string (mk (s.wait 0))) := by rw [cell_at h.wt]; rfl
theorem rx_w1 (h : Rx W x s q t r0 r1) : W.cell? ⟨q, 1, none⟩ = some (.string (mk (s.wait 1))) := by rw [cell_at h.wt]; rfl
theorem Rx.t0 (h : Rx W x s q t r0 r1) : W.cell? ⟨t, 0, none⟩ = some (.pointer (some ⟨r0, 0, none⟩)) := by rw [cell_at h.rp]; rfl
theorem Rx.t1 (h : Rx W x s q t r0 r1) : W.cell? ⟨t, 1, none⟩ = some (.pointer (some ⟨r1, 0, none⟩)) := by rw [cell_at h.rp]; rfl
theorem rx_wait (h : Rx W x s q t r0 r1) (hk : k < 2) {new : Bs} (hl : new.length ≤ 262144) : Rx (W.setCell ⟨q, k, none⟩ (.string (mk new))) x { s with wait := upd s.wait k new } q t r0 r1 := by
  have n1 := cells_ne h.own h.wt (by decide)
  have n2 := cells_ne h.rp h.wt (by decide)
  have n3 := cells_ne h.f0 h.wt (by decide)
  have n4 := cells_ne h.f1 h.wt (by decide)
  refine ⟨(block_other _ _ _ _ n1).trans h.own, ?_, (block_other _ _ _ _ n2).trans h.rp, (block_other _ _ _ _ n3).trans h.f0, (block_other _ _ _ _ n4).trans h.f1, h.ne, fun j hj => ?_⟩
  · rw [block_same h.wt]
    obtain rfl | rfl : k = 0 ∨ k = 1 := by omega
    all_goals rfl
  · by_cases e : j = k
    · subst e; simp only [upd_same]; exact ⟨hl, (h.ok j hj).2⟩
    · simp only [upd_other _ _ e]; exact h.ok j hj
theorem Rx.gone (h : Rx W x s q t r0 r1) (g : Int) : Rx (W.setCell ⟨x, 3, none⟩ (.int .i64 g)) x { s with gone := g } q t r0 r1 := by
  have n1 := (cells_ne h.own h.wt (by decide)).symm
  have n2 := (cells_ne h.own h.rp (by decide)).symm
  have n3 := (cells_ne h.own h.f0 (by decide)).symm
  have n4 := (cells_ne h.own h.f1 (by decide)).symm
  exact ⟨by rw [block_same h.own]; rfl, (block_other _ _ _ _ n1).trans h.wt, (block_other _ _ _ _ n2).trans h.rp, (block_other _ _ _ _ n3).trans h.f0, (block_other _ _ _ _ n4).trans h.f1, h.ne, h.ok⟩
theorem Rx.read0 (h : Rx W x s q t r0 r1) {new : Bs} (hk : Keeps (fun b => b = r0) W W2) (hr : Rf W2 r0 new 0) (hl : new.length < 65540) : Rx W2 x { s with rest := upd s.rest 0 new } q t r0 r1 := by
  refine ⟨(hk.block _ (lt_at h.own) (cells_ne h.own h.f0 (by decide))).trans h.own, (hk.block _ (lt_at h.wt) (cells_ne h.wt h.f0 (by decide))).trans h.wt, (hk.block _ (lt_at h.rp) (cells_ne h.rp h.f0 (by decide))).trans h.rp, hr, h.f1.keeps hk h.ne.symm, h.ne, fun j hj => ?_⟩
  by_cases e : j = 0
  · subst e; simp only [upd_same]; exact ⟨(h.ok 0 hj).1, hl⟩
  · simp only [upd_other _ _ e]; exact h.ok j hj
theorem Rx.read1 (h : Rx W x s q t r0 r1) {new : Bs} (hk : Keeps (fun b => b = r1) W W2) (hr : Rf W2 r1 new 0) (hl : new.length < 65540) : Rx W2 x { s with rest := upd s.rest 1 new } q t r0 r1 := by
  refine ⟨(hk.block _ (lt_at h.own) (cells_ne h.own h.f1 (by decide))).trans h.own, (hk.block _ (lt_at h.wt) (cells_ne h.wt h.f1 (by decide))).trans h.wt, (hk.block _ (lt_at h.rp) (cells_ne h.rp h.f1 (by decide))).trans h.rp, h.f0.keeps hk h.ne, hr, h.ne, fun j hj => ?_⟩
  by_cases e : j = 1
  · subst e; simp only [upd_same]; exact ⟨(h.ok 1 hj).1, hl⟩
  · simp only [upd_other _ _ e]; exact h.ok j hj
theorem rwaiting_any (h : RX W F x s) (hk : k < 2) : Calls Tryd.prog 35 #[.pointer (some ⟨x, 0, none⟩), .int .i64 k] W fun e w' => e = .returned (.int .i64 (s.wait k).length) ∧ W = w' := by
  obtain ⟨q, t, r0, r1, h1, _⟩ := h
  have e0 := h1.o0
  have e1 := rx_w0 h1
  have e2 := rx_w1 h1
  have l0 := lt_at h1.own
  have l1 := lt_at h1.wt
  have b0 := (h1.ok k hk).1
  have hz := mk_size (s.wait k)
  obtain ⟨n, hn⟩ : ∃ n, (s.wait k).length = n := ⟨_, rfl⟩
  rw [hn] at hz b0 ⊢
  clear h1 hn
  obtain rfl | rfl : k = 0 ∨ k = 1 := by omega
  all_goals
    obtain ⟨a0, ha0⟩ : ∃ a, mk (s.wait 0) = a := ⟨_, rfl⟩
    obtain ⟨a1, ha1⟩ : ∃ a, mk (s.wait 1) = a := ⟨_, rfl⟩
    rw [ha0] at e1
    rw [ha1] at e2
    first | rw [ha0] at hz | rw [ha1] at hz
    clear ha0 ha1
    go_enter Tryd.func35, Tryd.ntmps35
    go_wp2_with fail
    go_ret
    exact ⟨rfl, rfl⟩
theorem rwaiting_no (x : Nat) (k : Int) (h0 : k ≠ 0) (h1 : k ≠ 1) (w : World) : Calls Tryd.prog 35 #[.pointer (some ⟨x, 0, none⟩), .int .i64 k] w fun e w' => e = .returned (.int .i64 0) ∧ w = w' := by
  have c0 : (k != 0) = true := by simpa using h0
  have c1 : (k != 1) = true := by simpa using h1
  clear h0 h1
  go_enter Tryd.func35, Tryd.ntmps35
  go_wp2_with fail
  go_ret
  exact ⟨rfl, rfl⟩
theorem rspace_any (h : RX W F x s) (hk : k < 2) : Calls Tryd.prog 36 #[.pointer (some ⟨x, 0, none⟩), .int .i64 k] W fun e w' => e = .returned (.int .i64 (262144 - (s.wait k).length)) ∧ W = w' := by
  obtain ⟨q, t, r0, r1, h1, _⟩ := h
  have e0 := h1.o0
  have e1 := rx_w0 h1
  have e2 := rx_w1 h1
  have l0 := lt_at h1.own
  have l1 := lt_at h1.wt
  have b0 := (h1.ok k hk).1
  have hz := mk_size (s.wait k)
  obtain ⟨n, hn⟩ : ∃ n, (s.wait k).length = n := ⟨_, rfl⟩
  rw [hn] at hz b0 ⊢
  clear h1 hn
  obtain rfl | rfl : k = 0 ∨ k = 1 := by omega
  all_goals
    obtain ⟨a0, ha0⟩ : ∃ a, mk (s.wait 0) = a := ⟨_, rfl⟩
    obtain ⟨a1, ha1⟩ : ∃ a, mk (s.wait 1) = a := ⟨_, rfl⟩
    rw [ha0] at e1
    rw [ha1] at e2
    first | rw [ha0] at hz | rw [ha1] at hz
    clear ha0 ha1
    go_enter Tryd.func36, Tryd.ntmps36
    go_wp2_with fail
    go_ret
    exact ⟨rfl, rfl⟩
theorem rspace_no (x : Nat) (k : Int) (h0 : k ≠ 0) (h1 : k ≠ 1) (w : World) : Calls Tryd.prog 36 #[.pointer (some ⟨x, 0, none⟩), .int .i64 k] w fun e w' => e = .returned (.int .i64 0) ∧ w = w' := by
  have c0 : (k != 0) = true := by simpa using h0
  have c1 : (k != 1) = true := by simpa using h1
  clear h0 h1
  go_enter Tryd.func36, Tryd.ntmps36
  go_wp2_with fail
  go_ret
  exact ⟨rfl, rfl⟩
theorem rheard_any (h : RX W F x s) : Calls Tryd.prog 46 #[.pointer (some ⟨x, 0, none⟩)] W (ROut F x { s with gone := 0 } W (.tuple #[])) := by
  obtain ⟨q, t, r0, r1, h1, h2⟩ := h
  have HE := Lib.hid (show ROut F x { s with gone := 0 } W (.tuple #[]) (.returned (.tuple #[])) (W.setCell ⟨x, 3, none⟩ (.int .i64 0)) from
    ⟨rfl, F, ⟨q, t, r0, r1, h1.gone 0, h2⟩, fun b hb => .inl hb, (Keeps.refl F W).setCell (p := ⟨x, 3, none⟩) (fun _ => (h2 x).2 (.inl rfl)) _⟩)
  have e3 := h1.o3
  have f3 := free_at h1.own 3
  have l0 := lt_at h1.own
  clear h1 h2
  go_enter Tryd.func46, Tryd.ntmps46
  go_wp2_with fail
  go_end0
  exact HE.out
def tickV (g : Int) : Value := .tuple #[.bool (tickA g), .bool (decide (20 ≤ g))]
set_option maxHeartbeats 1000000 in
theorem rtick_any (h : RX W F x s) (hg : 0 ≤ s.gone ∧ s.gone ≤ 1000000) : Calls Tryd.prog 45 #[.pointer (some ⟨x, 0, none⟩)] W (ROut F x { s with gone := s.gone + 1 } W (tickV (s.gone + 1))) := by
  obtain ⟨q, t, r0, r1, h1, h2⟩ := h
  have HE := Lib.hid (show ∀ a d, tickA (s.gone + 1) = a → decide (20 ≤ s.gone + 1) = d → ROut F x { s with gone := s.gone + 1 } W (tickV (s.gone + 1)) (.returned (.tuple #[.bool a, .bool d])) (W.setCell ⟨x, 3, none⟩ (.int .i64 (s.gone + 1))) from
    fun a d e1 e2 => ⟨by rw [← e1, ← e2]; rfl, F, ⟨q, t, r0, r1, h1.gone (s.gone + 1), h2⟩, fun b hb => .inl hb, (Keeps.refl F W).setCell (p := ⟨x, 3, none⟩) (fun _ => (h2 x).2 (.inl rfl)) _⟩)
  have e3 := h1.o3
  have f3 := free_at h1.own 3
  have l0 := lt_at h1.own
  clear h1 h2
  obtain ⟨g, hg'⟩ : ∃ g, s.gone = g := ⟨_, rfl⟩
  rw [hg'] at hg e3
  simp only [hg'] at HE ⊢
  clear hg'
  by_cases h20 : 20 ≤ g + 1
  · go_enter Tryd.func45, Tryd.ntmps45
    go_wp2
    go_ret2
    exact HE.out _ _ (by unfold tickA; rw [decide_eq_false (by omega)]; rfl) (decide_eq_true (by omega))
  · have h20' : g + 1 < 20 := by omega
    have hd := decide_eq_false h20
    have hm : (g + 1).tmod 4 = (g + 1 - 8) % 4 := by rw [Int.tmod_eq_emod_of_nonneg (by omega)]; omega
    rcases tick_cases (g + 1) h20' with ⟨c1, c2⟩ | ⟨c1, c3, c2⟩ | ⟨c1, z, c3, c4, c2⟩
    · go_enter Tryd.func45, Tryd.ntmps45
      go_wp2
      go_ret2
      exact HE.out _ _ c2 hd
    · rw [Int.tmod_eq_emod_of_nonneg (by omega)] at c3
      rw [c3] at hm
      have C2 := Lib.hid c2
      clear c3 c2
      go_enter Tryd.func45, Tryd.ntmps45
      go_wp2
      go_ret2
      exact HE.out _ _ C2.out hd
    · rw [Int.tmod_eq_emod_of_nonneg (by omega)] at c3
      rw [c3] at hm
      have C2 := Lib.hid c2
      clear c3 c2
      go_enter Tryd.func45, Tryd.ntmps45
      go_wp2
      go_ret2
      exact HE.out _ _ C2.out hd
end
end Go.Proofs.YtfijpnhnlpgkgaaDoor
