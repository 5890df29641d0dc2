/-
  The document's own link walked: Inject, Send, Take.
  Conditions: as in the contracts of the readers; a text that is laid takes at most 2^48 bytes.
-/
import Derived.Test.YtfijpnhnlpgkgaaDoorLinkRef
namespace Go.Proofs.YtfijpnhnlpgkgaaDoor
open Go.RowKit
section
variable {w W W2 : World} {x k : Nat} {s : Ls} {F : Nat → Prop}
def InjR (F : Nat → Prop) (x : Nat) (s : Ls) (k : Nat) (c : Bs) (W : World) (ev : Ending) (W2 : World) : Prop := ROut F x (injS s k c) W (.int .i64 (injE s k c)) ev W2
set_option maxRecDepth 100000 in
set_option maxHeartbeats 1000000 in
theorem rinject_any (h : RX W F x s) (hk : k < 2) (c : Bs) (hc : c.length ≤ 281474976710656) : Calls Tryd.prog 43 #[.pointer (some ⟨x, 0, none⟩), .int .i64 k, .string (mk c)] W (InjR F x s k c W) := by
  obtain ⟨q, t, r0, r1, h1, h2⟩ := h
  have hE0 : 262144 < (s.wait k).length + c.length → InjR F x s k c W (.returned (.int .i64 4)) W := fun hg => by
    unfold InjR injE injS
    rw [if_pos hg, if_pos hg]
    exact ⟨rfl, F, ⟨q, t, r0, r1, h1, h2⟩, fun b hb => .inl hb, Keeps.refl _ _⟩
  have hE1 : ¬ 262144 < (s.wait k).length + c.length → ∀ W2, Keeps (fun _ => False) (W.setCell ⟨q, k, none⟩ (.string (mk (s.wait k ++ c)))) W2 → InjR F x s k c W (.returned (.int .i64 0)) W2 := fun hg W2 hW2 => by
    unfold InjR injE injS
    rw [if_neg hg, if_neg hg]
    exact ⟨rfl, F, ⟨q, t, r0, r1, (rx_wait h1 hk (by rw [List.length_append]; omega)).keeps hW2 fun _ _ => id, h2⟩, fun b hb => .inl hb, ((Keeps.refl F W).setCell (p := ⟨q, k, none⟩) (fun _ => (h2 q).2 (.inr (.inl rfl))) _).trans (hW2.mono fun _ _ h => h.elim)⟩
  have HE0 := Lib.hid hE0
  have HE1 := Lib.hid hE1
  have e0 := h1.o0
  have e1 := rx_w0 h1
  have e2 := rx_w1 h1
  have l0 := lt_at h1.own
  have l1 := lt_at h1.wt
  have f1 := fun o => free_at h1.wt o
  have b0 := (h1.ok k hk).1
  have hz := mk_size (s.wait k)
  have hy := mk_size c
  have ha := mk_append (s.wait k) c
  obtain ⟨n, hn⟩ : ∃ n, (s.wait k).length = n := ⟨_, rfl⟩
  obtain ⟨m, hm⟩ : ∃ m, c.length = m := ⟨_, rfl⟩
  obtain ⟨V, hV⟩ : ∃ V, mk c = V := ⟨_, rfl⟩
  obtain ⟨Z, hZ⟩ : ∃ Z, mk (s.wait k ++ c) = Z := ⟨_, rfl⟩
  rw [hn] at hz b0 HE0 HE1
  rw [hm] at hc hy HE0 HE1
  rw [hZ] at ha HE1
  rw [hV] at hy ha ⊢
  clear h1 h2 hn hm hV hE0 hE1 hZ
  obtain rfl | rfl : k = 0 ∨ k = 1 := by omega
  all_goals
    obtain ⟨a0, ha0⟩ : ∃ a, mk (s.wait 0) = a := ⟨_, rfl⟩
    obtain ⟨a1, ha1⟩ : ∃ a, mk (s.wait 1) = a := ⟨_, rfl⟩
    rw [ha0] at e1
    rw [ha1] at e2
    first | rw [ha0] at hz ha | rw [ha1] at hz ha
    clear ha0 ha1
    have HA := Lib.hid ha
    clear ha
    by_cases hg : 262144 < n + m
    · have hg' : (262144 : Int) < (n : Int) + m := by omega
      have HE := Lib.hid (HE0.out hg)
      clear HE0 HE1 hg HA f1
      go_enter Tryd.func43, Tryd.ntmps43
      go_wp2_with fail
      go_ret
      exact HE.out
    · have hg' : ¬ (262144 : Int) < (n : Int) + m := by omega
      have HE := Lib.hid (HE1.out hg)
      clear HE0 HE1 hg
      go_enter Tryd.func43, Tryd.ntmps43
      go_wp2_with fail
      go_region
      all_goals
        rw [HA.out]
        go_wp2_with fail
        go_ret
        exact HE.out _ ((Keeps.refl _ _).drewN _)
theorem rinject_no (x : Nat) (k : Int) (h0 : k ≠ 0) (h1 : k ≠ 1) (c : ByteArray) (w : World) : Calls Tryd.prog 43 #[.pointer (some ⟨x, 0, none⟩), .int .i64 k, .string c] w fun e w' => e = .returned (.int .i64 1) ∧ w = w' := by
  have c0 : (k != 0) = true := by simpa using h0
  have c1 : (k != 1) = true := by simpa using h1
  clear h0 h1
  go_enter Tryd.func43, Tryd.ntmps43
  go_wp2_with fail
  go_ret
  exact ⟨rfl, rfl⟩
theorem rsend_no (x : Nat) (k : Int) (h0 : k ≠ 0) (h1 : k ≠ 1) (c : ByteArray) (w : World) : Calls Tryd.prog 47 #[.pointer (some ⟨x, 0, none⟩), .int .i64 k, .string c] w fun e w' => e = .returned (.int .i64 1) ∧ w = w' := by
  have c0 : (k != 0) = true := by simpa using h0
  have c1 : (k != 1) = true := by simpa using h1
  clear h0 h1
  go_enter Tryd.func47, Tryd.ntmps47
  go_wp2_with fail
  go_ret
  exact ⟨rfl, rfl⟩
theorem rtake_no (x : Nat) (k most : Int) (h : (k ≠ 0 ∧ k ≠ 1) ∨ most < 0) (w : World) : Calls Tryd.prog 44 #[.pointer (some ⟨x, 0, none⟩), .int .i64 k, .int .i64 most] w fun e w' => e = .returned (.tuple #[.slice none 0 0, .int .i64 1]) ∧ w = w' := by
  by_cases hk : k = 0 ∨ k = 1
  · have hm : most < 0 := by omega
    clear h
    rcases hk with rfl | rfl
    all_goals
      go_enter Tryd.func44, Tryd.ntmps44
      go_wp2_with fail
      go_ret2
      exact ⟨rfl, rfl⟩
  · have c0 : (k != 0) = true := by simpa using (show k ≠ 0 by omega)
    have c1 : (k != 1) = true := by simpa using (show k ≠ 1 by omega)
    clear h hk
    go_enter Tryd.func44, Tryd.ntmps44
    go_wp2_with fail
    go_ret2
    exact ⟨rfl, rfl⟩
def SendR (F : Nat → Prop) (x : Nat) (s : Ls) (k : Nat) (c : Bs) (W : World) (ev : Ending) (W2 : World) : Prop := ROut F x (sendS s k c) W (.int .i64 (sendE s k c)) ev W2
theorem rsend_any (h : RX W F x s) (hk : k < 2) (c : Bs) (hc : c.length ≤ maxLen) : Calls Tryd.prog 47 #[.pointer (some ⟨x, 0, none⟩), .int .i64 k, .string (mk c)] W (SendR F x s k c W) := by
  have CP := Lib.hid (rpack_any c W hc)
  by_cases hs : 1 ≤ c.length ∧ c.length ≤ 65536
  · have CI := Lib.hid (fun W2 (hw : Keeps (fun _ => False) W W2) => (rinject_any (h.keeps hw fun _ _ => id) hk (frm c) (by rw [frm_length]; omega)).mono fun ev W3 (h3 : InjR F x s k (frm c) W2 ev W3) =>
      (show SendR F x s k c W ev W3 from by
        unfold SendR sendE sendS
        rw [if_pos hs, if_pos hs]
        obtain ⟨e, F', a1, a2, a3⟩ := h3
        exact ⟨e, F', a1, fun b hb => (a2 b hb).imp id fun h => Nat.le_trans hw.size h, (hw.mono fun _ _ h => h.elim).trans a3⟩))
    rw [show packL c = (frm c, true) from if_pos hs] at CP
    simp only at CP
    obtain ⟨V, hV⟩ : ∃ V, mk c = V := ⟨_, rfl⟩
    obtain ⟨Z, hZ⟩ : ∃ Z, mk (frm c) = Z := ⟨_, rfl⟩
    rw [hV] at CP ⊢
    rw [hZ] at CP CI
    clear h hV hZ hs hc
    obtain rfl | rfl : k = 0 ∨ k = 1 := by omega
    all_goals
      go_enter Tryd.func47, Tryd.ntmps47
      go_wp2_with fail
      refine CP.out.mono ?_; rintro e w2 ⟨rfl, k2⟩
      have CJ := Lib.hid (CI.out _ k2)
      clear k2 CP CI
      go_wp2_with fail
      refine CJ.out.mono ?_; rintro e w3 h3
      obtain ⟨rfl, hr⟩ := id h3
      have H3 := Lib.hid h3
      clear h3 hr CJ
      go_wp2_with fail
      go_ret
      exact H3.out
  · have HE := Lib.hid fun W2 (hw : Keeps (fun _ => False) W W2) => (show SendR F x s k c W (.returned (.int .i64 3)) W2 from by
      unfold SendR sendE sendS
      rw [if_neg hs, if_neg hs]
      exact ⟨rfl, F, h.keeps hw fun _ _ => id, fun b hb => .inl hb, hw.mono fun _ _ h => h.elim⟩)
    rw [show packL c = ([], false) from if_neg hs] at CP
    simp only at CP
    obtain ⟨V, hV⟩ : ∃ V, mk c = V := ⟨_, rfl⟩
    obtain ⟨Z, hZ⟩ : ∃ Z, mk [] = Z := ⟨_, rfl⟩
    rw [hV] at CP ⊢
    rw [hZ] at CP
    clear h hV hZ hs hc
    obtain rfl | rfl : k = 0 ∨ k = 1 := by omega
    all_goals
      go_enter Tryd.func47, Tryd.ntmps47
      go_wp2_with fail
      refine CP.out.mono ?_; rintro e w2 ⟨rfl, k2⟩
      have K2 := Lib.hid k2
      clear k2 CP
      go_wp2_with fail
      go_ret
      exact HE.out _ K2.out
def TakeR (F : Nat → Prop) (x : Nat) (s : Ls) (k : Nat) (most : Int) (W : World) (ev : Ending) (W2 : World) : Prop :=
  ∃ ov, ev = .returned (.tuple #[ov, .int .i64 (takeP s k most).2.2]) ∧ RowAt W2 9 ov ((takeP s k most).1.map sV) ∧ ∃ F', RX W2 F' x (takeS s k most) ∧ (∀ b, F' b → F b ∨ W.heap.size ≤ b) ∧ Keeps F W W2
set_option maxRecDepth 100000 in
set_option maxHeartbeats 2000000 in
theorem rtake_any (h : RX W F x s) (hk : k < 2) (most : Int) (hm : 0 ≤ most) (he : 0 ≤ s.ep ∧ s.ep ≤ 1000000) : Calls Tryd.prog 44 #[.pointer (some ⟨x, 0, none⟩), .int .i64 k, .int .i64 most] W (TakeR F x s k most W) := by
  obtain ⟨q, t, r0, r1, h1, h2⟩ := h
  obtain ⟨n, hn⟩ : ∃ n, takeN s k most = n := ⟨_, rfl⟩
  have hn1 : n ≤ (s.wait k).length := by rw [← hn]; unfold takeN; omega
  have hmn : (if ((s.wait k).length : Int) < most then ((s.wait k).length : Int) else most) = (n : Int) := by rw [← hn]; unfold takeN; split <;> omega
  obtain ⟨T, rest', e', hPe⟩ : ∃ T rest' e', takeP s k most = (T, rest', e') := ⟨_, _, _, rfl⟩
  have hfa := parse_facts _ (s.rest k ++ (s.wait k).take n) (Nat.le_refl _)
  have hP2 : parse (s.rest k ++ (s.wait k).take n) = (T, rest', e') := by rw [← hPe]; unfold takeP; rw [hn]
  rw [hP2] at hfa
  have hok := h1.ok k hk
  have hlt : ((s.wait k).take n).length = n := by rw [List.length_take]; omega
  have hw := rx_wait h1 hk (new := (s.wait k).drop n) (by rw [List.length_drop]; omega)
  -- what the feeding leaves
  have hF : ∀ W', Keeps (fun _ => False) (W.setCell ⟨q, k, none⟩ (.string (mk ((s.wait k).drop n)))) W' → Calls Tryd.prog 19 #[.pointer (some ⟨if k = 0 then r0 else r1, 0, none⟩), .string (mk ((s.wait k).take n))] W' fun ev W2 =>
      ∃ ov, ev = .returned (.tuple #[ov, .int .i64 e']) ∧ (e' = 0 → TakeR F x s k most W (.returned (.tuple #[ov, .int .i64 e'])) W2) ∧ (e' ≠ 0 → ∀ W3, (∃ G, RX W3 G x (zeroS (s.ep + 1)) ∧ ∀ b, G b → b = x ∨ W2.heap.size ≤ b) → Keeps (fun b => b = x) W2 W3 → TakeR F x s k most W (.returned (.tuple #[ov, .int .i64 e'])) W3) ∧
        (∃ c0 c1, W2.heap[x]? = some (.cells #[c0, c1, .int .u64 s.ep, .int .i64 s.gone] 70 (0, 0))) := fun W' hW' => by
    have hx := hw.keeps hW' fun _ _ => id
    have hkw : Keeps F W W' := ((Keeps.refl F W).setCell (p := ⟨q, k, none⟩) (fun _ => (h2 q).2 (.inr (.inl rfl))) _).trans (hW'.mono fun _ _ h => h.elim)
    have hsz : W.heap.size ≤ W'.heap.size := hkw.size
    have hrf : Rf W' (if k = 0 then r0 else r1) (s.rest k) 0 := by
      obtain rfl | rfl : k = 0 ∨ k = 1 := by omega
      · exact hx.f0
      · exact hx.f1
    refine (rfeed_any hrf ((s.wait k).take n) (by omega)).mono ?_
    rintro ev W2 ⟨ov, rfl, a1, a2, a3⟩
    rw [show feedL (s.rest k) 0 ((s.wait k).take n) = (T, rest', e') from (if_pos rfl).trans hP2] at a1 a2 ⊢
    simp only at a1 a2 ⊢
    have hk2 : Keeps F W W2 := hkw.trans (a3.mono fun b _ hb => (h2 b).2 (by subst hb; split; exact .inr (.inr (.inr (.inl rfl))); exact .inr (.inr (.inr (.inr rfl)))))
    have hox : W2.heap[x]? = some (.cells #[.slice (some ⟨q, 0, none⟩) 2 2, .slice (some ⟨t, 0, none⟩) 2 2, .int .u64 s.ep, .int .i64 s.gone] 70 (0, 0)) :=
      (a3.block x (lt_at hx.own) (cells_ne hx.own hrf (by decide))).trans hx.own
    refine ⟨ov, rfl, fun h0 => ⟨ov, by rw [hPe], by rw [hPe]; exact a1, F, ⟨q, t, r0, r1, ?_, h2⟩, fun b hb => .inl hb, hk2⟩, fun h0 W3 hG hk3 => ?_, _, _, hox⟩
    · unfold takeS
      rw [hPe, if_pos h0, hn]
      subst h0
      obtain rfl | rfl : k = 0 ∨ k = 1 := by omega
      · exact hx.read0 a3 a2 hfa.2.2.2
      · exact hx.read1 a3 a2 hfa.2.2.2
    · obtain ⟨G, g1, g2⟩ := hG
      refine ⟨ov, by rw [hPe], by rw [hPe]; exact a1.keeps hk3 fun b hb hbx => row_ne' a1 hox (by decide) (hbx ▸ hb), G, ?_, fun b hb => ?_, hk2.trans (hk3.mono fun b _ hb => (h2 b).2 (.inl hb))⟩
      · unfold takeS; rw [hPe, if_neg h0]; exact g1
      · rcases g2 b hb with h | h
        · exact .inl ((h2 b).2 (.inl h))
        · have := hk2.size; exact .inr (by omega)
  have HF := Lib.hid hF
  have e0 := h1.o0
  have e1 := rx_w0 h1
  have e2 := rx_w1 h1
  have e3 := h1.o1
  have e4 := h1.t0
  have e5 := h1.t1
  have l0 := lt_at h1.own
  have l1 := lt_at h1.wt
  have l2 := lt_at h1.rp
  have f1 := fun o => free_at h1.wt o
  have b0 := hok.1
  have hz := mk_size (s.wait k)
  have hx1 := mk_extract (s.wait k) 0 n
  have hx2 := mk_extract (s.wait k) n (s.wait k).length
  rw [List.drop_zero, Nat.sub_zero] at hx1
  rw [List.take_of_length_le (l := (s.wait k).drop n) (by rw [List.length_drop]; omega)] at hx2
  have n1 := cells_ne h1.own h1.wt (by decide)
  have n2 := cells_ne h1.rp h1.wt (by decide)
  have hmo : 0 ≤ most := hm
  obtain ⟨L, hL⟩ : ∃ L, (s.wait k).length = L := ⟨_, rfl⟩
  rw [hL] at hz b0 hn1 hmn hx2
  obtain ⟨C, hC⟩ : ∃ C, mk ((s.wait k).take n) = C := ⟨_, rfl⟩
  obtain ⟨D, hD⟩ : ∃ D, mk ((s.wait k).drop n) = D := ⟨_, rfl⟩
  rw [hC] at hx1 HF
  rw [hD] at hx2 HF
  clear h1 h2 hn hPe hP2 hfa hok hlt hw hF hL hC hD hm
  obtain rfl | rfl : k = 0 ∨ k = 1 := by omega
  all_goals
    obtain ⟨a0, ha0⟩ : ∃ a, mk (s.wait 0) = a := ⟨_, rfl⟩
    obtain ⟨a1, ha1⟩ : ∃ a, mk (s.wait 1) = a := ⟨_, rfl⟩
    rw [ha0] at e1
    rw [ha1] at e2
    first | rw [ha0] at hz hx1 hx2 | rw [ha1] at hz hx1 hx2
    clear ha0 ha1
    have HX1 := Lib.hid hx1
    have HX2 := Lib.hid hx2
    clear hx1 hx2
    go_enter Tryd.func44, Tryd.ntmps44
    go_wp2_with fail
    go_region
    all_goals
      rw [HX1.out, HX2.out]
      first
        | (obtain ⟨W1, hW1⟩ : ∃ W1, (W.setCell ⟨q, 0, none⟩ (.string D)).drew = W1 := ⟨_, rfl⟩
           rw [hW1]
           have CF := HF.out W1 (by rw [← hW1]; exact (Keeps.refl _ _).drew)
           have o1 : W1.cell? ⟨x, 1, none⟩ = some (.slice (some ⟨t, 0, none⟩) 2 2) := by rw [← hW1, ← e3]; unfold World.cell?; rw [show (W.setCell ⟨q, 0, none⟩ (.string D)).drew.heap[x]? = W.heap[x]? from block_other _ _ _ _ n1]
           have o2 : W1.cell? ⟨t, 0, none⟩ = some (.pointer (some ⟨r0, 0, none⟩)) := by rw [← hW1, ← e4]; unfold World.cell?; rw [show (W.setCell ⟨q, 0, none⟩ (.string D)).drew.heap[t]? = W.heap[t]? from block_other _ _ _ _ n2]
           have hsz : W1.heap.size = W.heap.size := by rw [← hW1]; simp)
        | (obtain ⟨W1, hW1⟩ : ∃ W1, (W.setCell ⟨q, 1, none⟩ (.string D)).drew = W1 := ⟨_, rfl⟩
           rw [hW1]
           have CF := HF.out W1 (by rw [← hW1]; exact (Keeps.refl _ _).drew)
           have o1 : W1.cell? ⟨x, 1, none⟩ = some (.slice (some ⟨t, 0, none⟩) 2 2) := by rw [← hW1, ← e3]; unfold World.cell?; rw [show (W.setCell ⟨q, 1, none⟩ (.string D)).drew.heap[x]? = W.heap[x]? from block_other _ _ _ _ n1]
           have o2 : W1.cell? ⟨t, 1, none⟩ = some (.pointer (some ⟨r1, 0, none⟩)) := by rw [← hW1, ← e5]; unfold World.cell?; rw [show (W.setCell ⟨q, 1, none⟩ (.string D)).drew.heap[t]? = W.heap[t]? from block_other _ _ _ _ n2]
           have hsz : W1.heap.size = W.heap.size := by rw [← hW1]; simp)
      have m0 : x < W1.heap.size := by omega
      have m2 : t < W1.heap.size := by omega
      replace CF := Lib.hid CF
      clear hW1 hsz e0 e1 e2 e3 e4 e5 f1 l0 l1 l2 HF hmn
      go_wp2_with fail
      refine CF.out.mono ?_; rintro e w3 ⟨ov, rfl, g0, g1, c0, c1, g2⟩
      by_cases hz0 : e' = 0
      · have HE := Lib.hid (g0 hz0)
        subst hz0
        clear g0 g1 g2 CF
        go_wp2_with fail
        go_ret2
        exact HE.out
      · have hzb : (e' != 0) = true := by simpa using hz0
        have CR := Lib.hid (rreset_any g2 he)
        have HE := Lib.hid (g1 hz0)
        clear g0 g1 g2 CF hz0
        go_wp2_with fail
        refine CR.out.mono ?_; rintro e w4 ⟨rfl, hG, hk4⟩
        have HE2 := Lib.hid (HE.out _ hG hk4)
        clear hG hk4 CR HE
        go_wp2_with fail
        go_ret2
        exact HE2.out
end
end Go.Proofs.YtfijpnhnlpgkgaaDoor
