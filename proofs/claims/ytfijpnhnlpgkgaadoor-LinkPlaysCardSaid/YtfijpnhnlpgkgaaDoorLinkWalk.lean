/-
  The link's methods walked: New, Reset, way, Waiting, Space, Inject, Send, Take, Tick, Heard, Epoch.
  Conditions: as in the contracts of the readers.
-/
import Derived.Test.YtfijpnhnlpgkgaaDoorLinkMem
import Derived.Deep.RegionWith
import Derived.BigRegion
namespace Go.Proofs.YtfijpnhnlpgkgaaDoor
open Go.RowKit
def zeroS (ep : Int) : Ls := ⟨fun _ => [], fun _ => [], ep, 0⟩
/-- the world behind one round of Reset -/
def stepW (w : World) (p o : Nat) : World := (((w.setCell ⟨p, o, none⟩ (.pointer (some ⟨w.heap.size, 0, none⟩))).setCell ⟨p, o + 1, none⟩ (.slice none 0 0)).alloc (.cells #[.slice none 0 0, .int .i64 0] 76)).drew
theorem stepW_at {w : World} {p : Nat} {cs : Array Value} (h : w.heap[p]? = some (.cells cs 90 (0, 0))) (o : Nat) :
    (stepW w p o).heap[p]? = some (.cells ((cs.setIfInBounds o (ptrV w.heap.size)).setIfInBounds (o + 1) (.slice none 0 0)) 90 (0, 0)) ∧ (stepW w p o).heap[w.heap.size]? = some (.cells #[.slice none 0 0, .int .i64 0] 76 (0, 0)) ∧
    Keeps (fun b => b = p) w (stepW w p o) ∧ (stepW w p o).heap.size = w.heap.size + 1 := by
  have hp := lt_at h
  refine ⟨?_, ?_, ((((Keeps.refl (fun b => b = p) w).setCell (p := ⟨p, o, none⟩) (fun _ => rfl) _).setCell (p := ⟨p, o + 1, none⟩) (fun _ => rfl) _).alloc _).drew, by simp [stepW]⟩
  · show (World.alloc _ _).heap[p]? = _
    rw [Below.heap_alloc _ _ _ (by simp; omega), block_same (block_same h o _)]; rfl
  · show (World.alloc _ _).heap[w.heap.size]? = _
    have := heap_alloc_new ((w.setCell ⟨p, o, none⟩ (.pointer (some ⟨w.heap.size, 0, none⟩))).setCell ⟨p, o + 1, none⟩ (.slice none 0 0)) (.cells #[.slice none 0 0, .int .i64 0] 76)
    simpa using this
theorem reset_lk {w W : World} {p r0 r1 : Nat} {ep : Int} (h : W.heap[p]? = some (.cells #[ptrV r0, .slice none 0 0, ptrV r1, .slice none 0 0, .int .u64 ep, .int .i64 0] 90 (0, 0)))
    (h0 : W.heap[r0]? = some (.cells #[.slice none 0 0, .int .i64 0] 76 (0, 0))) (h1 : W.heap[r1]? = some (.cells #[.slice none 0 0, .int .i64 0] 76 (0, 0))) (hne : r0 ≠ r1) (g0 : w.heap.size ≤ r0) (g1 : w.heap.size ≤ r1) :
    ∃ F, Lk W F p (zeroS ep) ∧ ∀ b, F b → b = p ∨ w.heap.size ≤ b := by
  have hrd : ∀ x, W.heap[x]? = some (.cells #[.slice none 0 0, .int .i64 0] 76 (0, 0)) → Rd W (fun b => b = x) x [] 0 := fun x hx => ⟨.slice none 0 0, hx, RowAt.nil _ _, fun b => by simp [Value.ownBlock]⟩
  refine ⟨Foot p (fun _ => .slice none 0 0) (fun k b => b = if k = 0 then r0 else r1), ⟨fun k => if k = 0 then r0 else r1, fun _ => .slice none 0 0, fun k b => b = if k = 0 then r0 else r1, ⟨h, fun _ _ => RowAt.nil _ _, fun k hk => ?_, fun b hb => ?_, nofun, nofun, fun k _ => ⟨by simp [zeroS], by simp [zeroS]⟩⟩, fun _ => Iff.rfl⟩, fun b hb => ?_⟩
  · obtain rfl | rfl : k = 0 ∨ k = 1 := by omega
    · exact hrd r0 h0
    · exact hrd r1 h1
  · intro hb2
    have e1 : b = r0 := hb
    have e2 : b = r1 := hb2
    omega
  · rcases hb with rfl | ⟨k, hk, hb | hb⟩
    · exact .inl rfl
    · cases hb
    · right
      have hb' : b = if k = 0 then r0 else r1 := hb
      split at hb' <;> omega
set_option maxRecDepth 100000 in
set_option maxHeartbeats 2000000 in
theorem reset_any {w : World} {p : Nat} {c0 c1 c2 c3 : Value} {ep gone : Int} (h : w.heap[p]? = some (.cells #[c0, c1, c2, c3, .int .u64 ep, .int .i64 gone] 90 (0, 0))) (he : 0 ≤ ep ∧ ep ≤ 1000000) :
    Calls Tryd.prog 31 #[.pointer (some ⟨p, 0, none⟩)] w fun e w' => e = .returned (.tuple #[]) ∧ (∃ F, Lk w' F p (zeroS (ep + 1)) ∧ ∀ b, F b → b = p ∨ w.heap.size ≤ b) ∧ Keeps (fun b => b = p) w w' := by
  have hp := lt_at h
  have d0 : w.cell? ⟨p, 0, none⟩ = some c0 := by rw [cell_at h]; rfl
  have d1 : w.cell? ⟨p, 1, none⟩ = some c1 := by rw [cell_at h]; rfl
  have d2 : w.cell? ⟨p, 2, none⟩ = some c2 := by rw [cell_at h]; rfl
  have d3 : w.cell? ⟨p, 3, none⟩ = some c3 := by rw [cell_at h]; rfl
  have d4 : w.cell? ⟨p, 4, none⟩ = some (.int .u64 ep) := by rw [cell_at h]; rfl
  have d5 : w.cell? ⟨p, 5, none⟩ = some (.int .i64 gone) := by rw [cell_at h]; rfl
  have f0 := fun o => free_at h o
  have H := Lib.hid h
  clear h
  go_enter Tryd.func31, Tryd.ntmps31
  go_wp2_with fail
  refine wp_loop_rounds 3 ?_
  rw [rounds_succ]; go_wp2_with fail
  go_region_with (go_at_call 16; refine (new_any _).mono ?_; rintro e w1 ⟨rfl, rfl⟩)
  obtain ⟨s1, s2, s3, s4⟩ := stepW_at H.out 0
  obtain ⟨W1, hW1⟩ : ∃ W1, stepW w p 0 = W1 := ⟨_, rfl⟩
  rw [hW1] at s1 s2 s3 s4
  unfold stepW at hW1
  simp only [Nat.zero_add] at hW1
  rw [hW1]
  have e0 : W1.cell? ⟨p, 2, none⟩ = some c2 := by rw [cell_at s1]; rfl
  have e1 : W1.cell? ⟨p, 3, none⟩ = some c3 := by rw [cell_at s1]; rfl
  have e2 := fun o => free_at s1 o
  have e3 := lt_at s1
  have S1 := Lib.hid (⟨s1, s2, s3, s4⟩ : _ ∧ _ ∧ _ ∧ _)
  clear s1 s2 s3 s4 hW1 d0 d1 d2 d3 d4 d5 f0
  go_wp2_with fail
  rw [rounds_succ]; go_wp2_with fail
  go_region_with (go_at_call 16; refine (new_any _).mono ?_; rintro e w1 ⟨rfl, rfl⟩)
  obtain ⟨t1, t2, t3, t4⟩ := stepW_at S1.out.1 2
  obtain ⟨W2, hW2⟩ : ∃ W2, stepW W1 p 2 = W2 := ⟨_, rfl⟩
  rw [hW2] at t1 t2 t3 t4
  unfold stepW at hW2
  rw [hW2]
  have q4 : W2.cell? ⟨p, 4, none⟩ = some (.int .u64 ep) := by rw [cell_at t1]; rfl
  have q5 : W2.cell? ⟨p, 5, none⟩ = some (.int .i64 gone) := by rw [cell_at t1]; rfl
  have q6 := fun o => free_at t1 o
  have q7 := lt_at t1
  have hend : (∃ F, Lk ((W2.setCell ⟨p, 4, none⟩ (.int .u64 (ep + 1))).setCell ⟨p, 5, none⟩ (.int .i64 0)) F p (zeroS (ep + 1)) ∧ ∀ b, F b → b = p ∨ w.heap.size ≤ b) ∧ Keeps (fun b => b = p) w ((W2.setCell ⟨p, 4, none⟩ (.int .u64 (ep + 1))).setCell ⟨p, 5, none⟩ (.int .i64 0)) := by
    obtain ⟨s1, s2, s3, s4⟩ := S1.out
    refine ⟨reset_lk (r0 := w.heap.size) (r1 := W1.heap.size) (by rw [block_same (block_same t1 4 _)]; rfl) ?_ ?_ (by omega) (Nat.le_refl _) (by omega), (((s3.trans t3).setCell (p := ⟨p, 4, none⟩) (fun _ => rfl) _).setCell (p := ⟨p, 5, none⟩) (fun _ => rfl) _)⟩
    · rw [block_other _ _ _ _ (by omega), block_other _ _ _ _ (by omega), t3.block _ (by omega) (by omega)]; exact s2
    · have : p < W1.heap.size := lt_at s1
      rw [block_other _ _ _ _ (by omega), block_other _ _ _ _ (by omega)]; exact t2
  have HE := Lib.hid hend
  clear t1 t2 t3 t4 hW2 e0 e1 e2 hend S1
  go_wp2_with fail
  rw [rounds_succ]; go_wp2_with fail
  go_end0
  exact ⟨rfl, HE.out⟩
theorem lnew_any (w : World) : Calls Tryd.prog 25 #[] w fun e w' => ∃ p, e = .returned (.pointer (some ⟨p, 0, none⟩)) ∧ (∃ F, Lk w' F p (zeroS 1) ∧ ∀ b, F b → w.heap.size ≤ b) ∧ w.heap.size ≤ p ∧ Keeps (fun _ => False) w w' := by
  have C := Lib.hid (reset_any (w := w.alloc (.cells #[.pointer none, .slice none 0 0, .pointer none, .slice none 0 0, .int .u64 0, .int .i64 0] 90)) (heap_alloc_new _ _) (by omega))
  go_enter Tryd.func25, Tryd.ntmps25
  go_wp2_with fail
  refine C.out.mono ?_; rintro e w1 ⟨rfl, ⟨F, h1, h2⟩, h3⟩
  have HE := Lib.hid (show (∃ F, Lk w1 F w.heap.size (zeroS 1) ∧ ∀ b, F b → w.heap.size ≤ b) ∧ Keeps (fun _ => False) w w1 from ⟨⟨F, h1, fun b hb => by rcases h2 b hb with h | h; omega; (simp at h; omega)⟩, ((Keeps.refl _ _).alloc _).trans' h3 fun i hi e => by omega⟩)
  clear h1 h2 h3 C
  go_wp2_with fail
  go_ret
  exact ⟨_, rfl, HE.out.1, Nat.le_refl _, HE.out.2⟩
/-- a way, and none -/
theorem way_any (p : Nat) (k : Nat) (hk : k < 2) (w : World) : Calls Tryd.prog 41 #[.pointer (some ⟨p, 0, none⟩), .int .i64 k] w fun e w' => e = .returned (.tuple #[.pointer (some ⟨p, 2 * k, none⟩), .bool true]) ∧ w = w' := by
  obtain rfl | rfl : k = 0 ∨ k = 1 := by omega
  · go_enter Tryd.func41, Tryd.ntmps41
    go_wp2
    go_ret2
    exact ⟨rfl, rfl⟩
  · go_enter Tryd.func41, Tryd.ntmps41
    go_wp2
    go_ret2
    exact ⟨rfl, rfl⟩
theorem way_no (p : Nat) (k : Int) (h0 : k ≠ 0) (h1 : k ≠ 1) (w : World) : Calls Tryd.prog 41 #[.pointer (some ⟨p, 0, none⟩), .int .i64 k] w fun e w' => e = .returned (.tuple #[.pointer none, .bool false]) ∧ w = w' := by
  have b0 : (k == 0) = false := by simpa using h0
  have b1 : (k == 1) = false := by simpa using h1
  have c0 : (k != 0) = true := by simpa using h0
  have c1 : (k != 1) = true := by simpa using h1
  clear h0 h1
  go_enter Tryd.func41, Tryd.ntmps41
  go_wp2
  go_ret2
  exact ⟨rfl, rfl⟩
section
variable {w W : World} {H : Nat → Prop} {p k : Nat} {s : Ls}
theorem LL.len (h : LL w H p s W) (hk : k < 2) : (s.wait k).length ≤ 262144 ∧ (s.rest k).length < 65540 := by obtain ⟨F, ⟨r, v, G, h1, _⟩, _⟩ := h; exact h1.ok k hk
theorem ll_waiting (h : LL w H p s W) (hk : k < 2) : Calls Tryd.prog 27 #[.pointer (some ⟨p, 0, none⟩), .int .i64 k] W fun e w' => e = .returned (.int .i64 (s.wait k).length) ∧ W = w' := by
  obtain ⟨F, ⟨r, v, G, h1, _⟩, _⟩ := h
  have hc := h1.cellW hk
  obtain ⟨va, vc, hv⟩ := (h1.row k hk).val
  rw [hv, List.length_map] at hc
  have hp := lt_at h1.own
  have CW := Lib.hid (way_any p k hk W)
  obtain ⟨n, hn⟩ : ∃ n, (s.wait k).length = n := ⟨_, rfl⟩
  rw [hn] at hc ⊢
  clear h1 hv hn
  go_enter Tryd.func27, Tryd.ntmps27
  go_wp2_with fail
  refine CW.out.mono ?_; rintro e w1 ⟨rfl, rfl⟩
  go_wp2_with fail
  go_ret
  exact ⟨rfl, rfl⟩
theorem waiting_no (p : Nat) (k : Int) (h0 : k ≠ 0) (h1 : k ≠ 1) (w : World) : Calls Tryd.prog 27 #[.pointer (some ⟨p, 0, none⟩), .int .i64 k] w fun e w' => e = .returned (.int .i64 0) ∧ w = w' := by
  have CW := Lib.hid (way_no p k h0 h1 w)
  clear h0 h1
  go_enter Tryd.func27, Tryd.ntmps27
  go_wp2_with fail
  refine CW.out.mono ?_; rintro e w1 ⟨rfl, rfl⟩
  go_wp2_with fail
  go_ret
  exact ⟨rfl, rfl⟩
theorem ll_space (h : LL w H p s W) (hk : k < 2) : Calls Tryd.prog 32 #[.pointer (some ⟨p, 0, none⟩), .int .i64 k] W fun e w' => e = .returned (.int .i64 (262144 - (s.wait k).length)) ∧ W = w' := by
  have hl := (h.len hk).1
  obtain ⟨F, ⟨r, v, G, h1, _⟩, _⟩ := h
  have hc := h1.cellW hk
  obtain ⟨va, vc, hv⟩ := (h1.row k hk).val
  rw [hv, List.length_map] at hc
  have hp := lt_at h1.own
  have CW := Lib.hid (way_any p k hk W)
  obtain ⟨n, hn⟩ : ∃ n, (s.wait k).length = n := ⟨_, rfl⟩
  rw [hn] at hc hl ⊢
  clear h1 hv hn
  go_enter Tryd.func32, Tryd.ntmps32
  go_wp2_with fail
  refine CW.out.mono ?_; rintro e w1 ⟨rfl, rfl⟩
  go_wp2_with fail
  go_ret
  exact ⟨rfl, rfl⟩
theorem space_no (p : Nat) (k : Int) (h0 : k ≠ 0) (h1 : k ≠ 1) (w : World) : Calls Tryd.prog 32 #[.pointer (some ⟨p, 0, none⟩), .int .i64 k] w fun e w' => e = .returned (.int .i64 0) ∧ w = w' := by
  have CW := Lib.hid (way_no p k h0 h1 w)
  clear h0 h1
  go_enter Tryd.func32, Tryd.ntmps32
  go_wp2_with fail
  refine CW.out.mono ?_; rintro e w1 ⟨rfl, rfl⟩
  go_wp2_with fail
  go_ret
  exact ⟨rfl, rfl⟩
theorem ll_epoch (h : LL w H p s W) : Calls Tryd.prog 29 #[.pointer (some ⟨p, 0, none⟩)] W fun e w' => e = .returned (.int .u64 s.ep) ∧ W = w' := by
  obtain ⟨F, ⟨r, v, G, h1, _⟩, _⟩ := h
  have hc := h1.cellE
  have hp := lt_at h1.own
  clear h1
  go_enter Tryd.func29, Tryd.ntmps29
  go_wp2
  go_ret
  exact ⟨rfl, rfl⟩
end
/-- what Inject answers, and leaves -/
def injE (s : Ls) (k : Nat) (c : Bs) : Int := if 262144 < (s.wait k).length + c.length then 4 else 0
def injS (s : Ls) (k : Nat) (c : Bs) : Ls := if 262144 < (s.wait k).length + c.length then s else { s with wait := upd s.wait k (s.wait k ++ c) }
def InjOut (w : World) (H : Nat → Prop) (p : Nat) (E : Int) (s' : Ls) (W : World) (ev : Ending) (W2 : World) : Prop := ev = .returned (.int .i64 E) ∧ LL w H p s' W2 ∧ HK w H W W2
set_option maxRecDepth 100000 in
set_option maxHeartbeats 1000000 in
theorem ll_inject {w W : World} {H : Nat → Prop} {p k : Nat} {s : Ls} (h : LL w H p s W) (hk : k < 2) (c : Bs) (hc : c.length ≤ maxLen) :
    Calls Tryd.prog 30 #[.pointer (some ⟨p, 0, none⟩), .int .i64 k, .string (mk c)] W (InjOut w H p (injE s k c) (injS s k c) W) := by
  obtain ⟨i5, hi5, hx0, hx1, hx2⟩ := info_parts Tryd.info5
  have CW := Lib.hid (way_any p k hk W)
  have CS := Lib.hid (ll_space h hk)
  have hl := (h.len hk).1
  have hsz : (mk c).size = c.length := mk_size c
  unfold maxLen at hc
  by_cases hgt : 262144 < (s.wait k).length + c.length
  · have HE := Lib.hid (show InjOut w H p (injE s k c) (injS s k c) W (.returned (.int .i64 4)) W from by
      unfold injE injS
      rw [if_pos hgt, if_pos hgt]
      exact ⟨rfl, h, Keeps.refl _ _⟩)
    obtain ⟨t, ht⟩ : ∃ t, mk c = t := ⟨_, rfl⟩
    rw [ht] at hsz ⊢
    have hg : (262144 : Int) - (s.wait k).length < t.size := by omega
    obtain ⟨n, hn⟩ : ∃ n, (s.wait k).length = n := ⟨_, rfl⟩
    rw [hn] at CS hl hg
    have hts : (t.size : Int) ≤ 9223372036854775807 := by omega
    clear h hsz ht hn hgt hc
    go_enter Tryd.func30, Tryd.ntmps30
    go_wp2_with fail
    refine CW.out.mono ?_; rintro e w1 ⟨rfl, rfl⟩
    go_wp2_with fail
    refine CS.out.mono ?_; rintro e w1 ⟨rfl, rfl⟩
    go_wp2_with fail
    go_ret
    exact HE.out
  · obtain ⟨F, ⟨r, v, G, h1, h0⟩, h2, h3, h4⟩ := h
    have hcw := h1.cellW hk
    obtain ⟨va, vc, hv⟩ := (h1.row k hk).val
    rw [hv, List.length_map] at hcw
    have hfr := free_at h1.own (2 * k + 1)
    have hp := lt_at h1.own
    have HRow := Lib.hid (hv ▸ h1.row k hk)
    have hsrc := fun W' => Src.ofString (P := Tryd.prog) W' Tryd.underlying9 (mk c)
    have HE := Lib.hid (show ∀ x W2, RowAt W2 5 x ((s.wait k).map uV ++ byteCells (mk c)) → Keeps (fun b => (Value.slice va (s.wait k).length vc).ownBlock = some b) W W2 → (∀ b, x.ownBlock = some b → (Value.slice va (s.wait k).length vc).ownBlock = some b ∨ W.heap.size ≤ b) →
        InjOut w H p (injE s k c) (injS s k c) W (.returned (.int .i64 0)) (W2.setCell ⟨p, 2 * k + 1, none⟩ x) from fun x W2 hr hkp hn => by
      unfold injE injS
      rw [if_neg hgt, if_neg hgt]
      rw [byteCells_mk, ← List.map_append] at hr
      rw [List.length_map] at hv
      rw [← hv] at hkp hn
      obtain ⟨g1, g2, g3⟩ := h1.wait hk hkp hr hn (by rw [List.length_append]; omega)
      obtain ⟨a1, a2⟩ := LL.next (F := F) (F' := Foot p (upd v k x) G) h2 h3 h4 ⟨r, _, G, g1, fun _ => Iff.rfl⟩ (fun b hb => (g3 b hb).imp (fun h => (h0 b).2 h) id) (g2.mono fun b _ hb => (h0 b).2 hb)
      exact ⟨rfl, a1, a2⟩)
    have hpk : (Value.slice va (s.wait k).length vc).ownBlock ≠ some p := by
      have := h1.pv hk
      rw [hv, List.length_map] at this; exact this
    have HO := Lib.hid h1.own
    rw [List.length_map] at HRow
    obtain ⟨t, ht⟩ : ∃ t, mk c = t := ⟨_, rfl⟩
    rw [ht] at hsz hsrc HE ⊢
    have hg : ¬ (262144 : Int) - (s.wait k).length < t.size := by omega
    obtain ⟨n, hn⟩ : ∃ n, (s.wait k).length = n := ⟨_, rfl⟩
    have hln : ((s.wait k).map uV).length = n := by rw [List.length_map, hn]
    have HLN := Lib.hid hln
    rw [hn] at CS hl hg hcw HRow HE hpk
    have hts : (t.size : Int) ≤ 262144 := by omega
    have HSrc := Lib.hid hsrc
    clear h1 h0 h2 h3 h4 hv hsz ht hn hgt hc hsrc hln
    go_enter Tryd.func30, Tryd.ntmps30
    go_wp2_with fail
    refine CW.out.mono ?_; rintro e w1 ⟨rfl, rfl⟩
    go_wp2_with fail
    refine CS.out.mono ?_; rintro e w1 ⟨rfl, rfl⟩
    go_wp2_with (at_builtin; refine wpList_app_row rfl _ _ 41 9 rfl 5 i5 (.int .u8 0) 1 Tryd.underlying41 hi5 hx0 hx1 hx2 rfl _ ((s.wait k).map uV) rfl HRow.out _ t.size (byteCells t) rfl (HSrc.out _) (by rw [HLN.out]; simp [maxLen]; omega) (by rw [HLN.out]; omega) ?_)
    intro x W2 r2 k2 n2
    have HE2 := Lib.hid (HE.out x W2 r2 k2 n2)
    have ho2 := (k2.block p hp hpk).trans HO.out
    have e2 : W2.cell? ⟨p, 2 * k + 1, none⟩ = some (v k) := by
      rw [cell_at ho2]
      obtain rfl | rfl : k = 0 ∨ k = 1 := by omega
      all_goals rfl
    have f2 := free_at ho2 (2 * k + 1)
    have l2 := lt_at ho2
    obtain ⟨xa, xc, rfl⟩ := r2.val
    obtain ⟨m, hm⟩ : ∃ m, ((s.wait k).map uV ++ byteCells t).length = m := ⟨_, rfl⟩
    rw [hm] at HE2 ⊢
    clear r2 k2 n2 ho2 HE hcw hm
    go_wp2
    go_ret
    exact HE2.out
theorem inject_no (p : Nat) (k : Int) (h0 : k ≠ 0) (h1 : k ≠ 1) (c : ByteArray) (w : World) : Calls Tryd.prog 30 #[.pointer (some ⟨p, 0, none⟩), .int .i64 k, .string c] w fun e w' => e = .returned (.int .i64 1) ∧ w = w' := by
  have CW := Lib.hid (way_no p k h0 h1 w)
  clear h0 h1
  go_enter Tryd.func30, Tryd.ntmps30
  go_wp2_with fail
  refine CW.out.mono ?_; rintro e w1 ⟨rfl, rfl⟩
  go_wp2_with fail
  go_ret
  exact ⟨rfl, rfl⟩
/-- what Send answers, and leaves -/
def sendE (s : Ls) (k : Nat) (m : Bs) : Int := if 1 ≤ m.length ∧ m.length ≤ 65536 then injE s k (frm m) else 3
def sendS (s : Ls) (k : Nat) (m : Bs) : Ls := if 1 ≤ m.length ∧ m.length ≤ 65536 then injS s k (frm m) else s
theorem send_no (p : Nat) (k : Int) (h0 : k ≠ 0) (h1 : k ≠ 1) (c : ByteArray) (w : World) : Calls Tryd.prog 26 #[.pointer (some ⟨p, 0, none⟩), .int .i64 k, .string c] w fun e w' => e = .returned (.int .i64 1) ∧ w = w' := by
  have CW := Lib.hid (way_no p k h0 h1 w)
  clear h0 h1
  go_enter Tryd.func26, Tryd.ntmps26
  go_wp2_with fail
  refine CW.out.mono ?_; rintro e w1 ⟨rfl, rfl⟩
  go_wp2_with fail
  go_ret
  exact ⟨rfl, rfl⟩
theorem HK.of_keeps {w a b : World} {H : Nat → Prop} (h : Keeps (fun _ => False) a b) : HK w H a b := h.mono fun _ _ h => h.elim
theorem ll_send {w W : World} {H : Nat → Prop} {p k : Nat} {s : Ls} (h : LL w H p s W) (hk : k < 2) (m : Bs) (hm : m.length ≤ maxLen) :
    Calls Tryd.prog 26 #[.pointer (some ⟨p, 0, none⟩), .int .i64 k, .string (mk m)] W (InjOut w H p (sendE s k m) (sendS s k m) W) := by
  have CW := Lib.hid (way_any p k hk W)
  by_cases hs : 1 ≤ m.length ∧ m.length ≤ 65536
  · have CP := Lib.hid (pack_ok m W hs.1 hs.2)
    have CI := Lib.hid (fun W2 (hw : Keeps (fun _ => False) W W2) => (ll_inject (h.step hw) hk (frm m) (by rw [frm_length]; simp [maxLen]; omega)).mono fun ev W3 (h3 : InjOut w H p (injE s k (frm m)) (injS s k (frm m)) W2 ev W3) =>
      (show InjOut w H p (sendE s k m) (sendS s k m) W ev W3 from by unfold sendE sendS; rw [if_pos hs, if_pos hs]; exact ⟨h3.1, h3.2.1, (HK.of_keeps hw).trans h3.2.2⟩))
    obtain ⟨t, ht⟩ : ∃ t, mk m = t := ⟨_, rfl⟩
    rw [ht] at CP ⊢
    clear h ht hs
    go_enter Tryd.func26, Tryd.ntmps26
    go_wp2_with fail
    refine CW.out.mono ?_; rintro e w1 ⟨rfl, rfl⟩
    go_wp2_with fail
    refine CP.out.mono ?_; rintro e w2 ⟨rfl, k2⟩
    have K2 := Lib.hid k2
    clear k2
    go_wp2_with fail
    refine (CI.out _ K2.out).mono ?_; rintro e w3 ⟨rfl, h3⟩
    have H3 := Lib.hid h3
    clear h3
    go_wp2_with fail
    go_ret
    exact ⟨rfl, H3.out⟩
  · have CP := Lib.hid (pack_no m W (by omega) hm)
    have HE := Lib.hid (show InjOut w H p (sendE s k m) (sendS s k m) W (.returned (.int .i64 3)) W from by
      unfold sendE sendS
      rw [if_neg hs, if_neg hs]
      exact ⟨rfl, h, Keeps.refl _ _⟩)
    obtain ⟨t, ht⟩ : ∃ t, mk m = t := ⟨_, rfl⟩
    rw [ht] at CP ⊢
    clear h ht hs
    go_enter Tryd.func26, Tryd.ntmps26
    go_wp2_with fail
    refine CW.out.mono ?_; rintro e w1 ⟨rfl, rfl⟩
    go_wp2_with fail
    refine CP.out.mono ?_; rintro e w2 ⟨rfl, rfl⟩
    go_wp2_with fail
    go_ret
    exact HE.out
end Go.Proofs.YtfijpnhnlpgkgaaDoor
