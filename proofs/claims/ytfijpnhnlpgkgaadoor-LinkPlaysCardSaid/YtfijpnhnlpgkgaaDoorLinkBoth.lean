/-
  The link and the document's own link side by side, apart from what is held: each method of either by contract, at any way.
  Conditions: as in the contracts of both.
-/
import Derived.Test.YtfijpnhnlpgkgaaDoorLinkRef2
namespace Go.Proofs.YtfijpnhnlpgkgaaDoor
open Go.RowKit
theorem take_no (p : Nat) (k most : Int) (h : (k ≠ 0 ∧ k ≠ 1) ∨ most < 0) (w : World) : Calls Tryd.prog 28 #[.pointer (some ⟨p, 0, none⟩), .int .i64 k, .int .i64 most] w fun e w' => e = .returned (.tuple #[.slice none 0 0, .int .i64 1]) ∧ w = w' := by
  by_cases hk : k = 0 ∨ k = 1
  · have hm : most < 0 := by omega
    clear h
    rcases hk with rfl | rfl
    · have CW := Lib.hid (way_any p 0 (by decide) w)
      go_enter Tryd.func28, Tryd.ntmps28
      go_wp2_with fail
      refine CW.out.mono ?_; rintro e w1 ⟨rfl, rfl⟩
      clear CW
      go_wp2_with fail
      go_ret2
      exact ⟨rfl, rfl⟩
    · have CW := Lib.hid (way_any p 1 (by decide) w)
      go_enter Tryd.func28, Tryd.ntmps28
      go_wp2_with fail
      refine CW.out.mono ?_; rintro e w1 ⟨rfl, rfl⟩
      clear CW
      go_wp2_with fail
      go_ret2
      exact ⟨rfl, rfl⟩
  · have CW := Lib.hid (way_no p k (by omega) (by omega) w)
    clear h hk
    go_enter Tryd.func28, Tryd.ntmps28
    go_wp2_with fail
    refine CW.out.mono ?_; rintro e w1 ⟨rfl, rfl⟩
    clear CW
    go_wp2_with fail
    go_ret2
    exact ⟨rfl, rfl⟩
/-- the link at s1, the document's at s2, apart from H -/
def BB (w : World) (H : Nat → Prop) (p x : Nat) (s1 s2 : Ls) (W : World) : Prop :=
  ∃ F, LL w (fun b => F b ∨ H b) p s1 W ∧ RX W F x s2 ∧ ∀ b, F b → w.heap.size ≤ b ∧ ¬ H b
/-- a way that is none -/
abbrev NoWay (k : Int) : Prop := k ≠ 0 ∧ k ≠ 1
theorem way_nat {k : Int} (h : ¬ NoWay k) : ∃ n : Nat, n < 2 ∧ k = n := by
  by_cases h0 : k = 0
  · exact ⟨0, by omega, h0⟩
  · exact ⟨1, by omega, by omega⟩
/-- at a way that is none: the error 1, and nothing else -/
def gE (k : Int) (f : Nat → Int) : Int := if NoWay k then 1 else f k.toNat
def gS (k : Int) (s : Ls) (f : Nat → Ls) : Ls := if NoWay k then s else f k.toNat
def gT (s : Ls) (k most : Int) : List Bs × Int := if NoWay k ∨ most < 0 then ([], 1) else ((takeP s k.toNat most).1, (takeP s k.toNat most).2.2)
def gTS (s : Ls) (k most : Int) : Ls := if NoWay k ∨ most < 0 then s else takeS s k.toNat most
def gW (k : Int) (s : Ls) : Int := if NoWay k then 0 else (s.wait k.toNat).length
def gR (k : Int) (s : Ls) : Int := if NoWay k then 0 else 262144 - (s.wait k.toNat).length
section
variable {w W W2 : World} {H : Nat → Prop} {p x : Nat} {s1 s2 : Ls}
theorem BB.keeps (h : BB w H p x s1 s2 W) : Keeps (fun _ => False) w W := by obtain ⟨F, h1, _⟩ := h; exact h1.keeps
theorem BB.step (h : BB w H p x s1 s2 W) (hk : Keeps (fun _ => False) W W2) : BB w H p x s1 s2 W2 := by
  obtain ⟨F, h1, h2, h3⟩ := h
  exact ⟨F, h1.step hk, h2.keeps hk fun _ _ => id, h3⟩
theorem BB.sub (h : BB w H p x s1 s2 W) {H' : Nat → Prop} (hs : ∀ b, H' b → H b) : BB w H' p x s1 s2 W := by
  obtain ⟨F, h1, h2, h3⟩ := h
  exact ⟨F, h1.sub fun b hb => hb.imp id (hs b), h2, fun b hb => ⟨(h3 b hb).1, fun h => (h3 b hb).2 (hs b h)⟩⟩
/-- what is held is written in blocks that may be written, or made anew -/
theorem BB.write (h : BB w H p x s1 s2 W) {K : Nat → Prop} (hk : Keeps K W W2) (hK : ∀ b, b < W.heap.size → K b → H b ∧ w.heap.size ≤ b) {H' : Nat → Prop} (hn : ∀ b, H' b → H b ∨ (W.heap.size ≤ b ∧ b < W2.heap.size)) : BB w H' p x s1 s2 W2 := by
  obtain ⟨F, h1, h2, h3⟩ := h
  refine ⟨F, h1.write hk (fun b hb hz => ⟨.inr (hK b hb hz).1, (hK b hb hz).2⟩) (fun b hb => ?_), h2.keeps hk fun b hb hz => (h3 b hb).2 (hK b (h2.lt hb) hz).1, fun b hb => ⟨(h3 b hb).1, fun hh => ?_⟩⟩
  · rcases hb with hb | hb
    · exact .inl (.inl hb)
    · exact (hn b hb).imp .inr id
  · rcases hn b hh with h | h
    · exact (h3 b hb).2 h
    · have := h2.lt hb; omega
/-- what a method of the link does -/
theorem BB.left {s1' : Ls} {F : Nat → Prop} (h2 : RX W F x s2) (h3 : ∀ b, F b → w.heap.size ≤ b ∧ ¬ H b) (g : LL w (fun b => F b ∨ H b) p s1' W2) (k : HK w (fun b => F b ∨ H b) W W2) : BB w H p x s1' s2 W2 ∧ HK w H W W2 :=
  ⟨⟨F, g, h2.keeps k fun _ hb hz => hz.2 (.inl hb), h3⟩, k.mono fun _ _ hz => ⟨hz.1, fun hh => hz.2 (.inr hh)⟩⟩
/-- what a method of the document's does -/
theorem BB.right {s2' : Ls} {F F' : Nat → Prop} (h1 : LL w (fun b => F b ∨ H b) p s1 W) (h3 : ∀ b, F b → w.heap.size ≤ b ∧ ¬ H b) (g1 : RX W2 F' x s2') (g2 : ∀ b, F' b → F b ∨ W.heap.size ≤ b) (g3 : Keeps F W W2) : BB w H p x s1 s2' W2 ∧ HK w H W W2 := by
  refine ⟨⟨F', h1.write g3 (fun b _ hb => ⟨.inl hb, (h3 b hb).1⟩) (fun b hb => ?_), g1, fun b hb => ?_⟩, g3.mono fun b _ hb => h3 b hb⟩
  · rcases hb with hb | hb
    · rcases g2 b hb with h | h
      · exact .inl (.inl h)
      · exact .inr ⟨h, g1.lt hb⟩
    · exact .inl (.inr hb)
  · rcases g2 b hb with h | h
    · exact h3 b h
    · obtain ⟨F0, a1, a2, a3, a4⟩ := h1
      exact ⟨Nat.le_trans a4.size h, fun hh => by have := a3 b (.inr hh); omega⟩
def BOut (w : World) (H : Nat → Prop) (p x : Nat) (v : Value) (s1 s2 : Ls) (W : World) (ev : Ending) (W2 : World) : Prop := ev = .returned v ∧ BB w H p x s1 s2 W2 ∧ HK w H W W2
theorem bb_inject (h : BB w H p x s1 s2 W) (k : Int) (c : Bs) (hc : c.length ≤ 281474976710656) :
    Calls Tryd.prog 30 #[.pointer (some ⟨p, 0, none⟩), .int .i64 k, .string (mk c)] W (BOut w H p x (.int .i64 (gE k fun n => injE s1 n c)) (gS k s1 fun n => injS s1 n c) s2 W) := by
  unfold gE gS
  by_cases hk : NoWay k
  · rw [if_pos hk, if_pos hk]
    exact (inject_no p k hk.1 hk.2 _ W).mono fun ev W2 g => ⟨g.1, g.2 ▸ h, g.2 ▸ Keeps.refl _ _⟩
  · rw [if_neg hk, if_neg hk]
    obtain ⟨n, hn, rfl⟩ := way_nat hk
    obtain ⟨F, h1, h2, h3⟩ := h
    exact (ll_inject h1 hn c (by simp [maxLen]; omega)).mono fun ev W2 g => ⟨g.1, BB.left h2 h3 g.2.1 g.2.2⟩
theorem bb_send (h : BB w H p x s1 s2 W) (k : Int) (c : Bs) (hc : c.length ≤ 281474976710656) :
    Calls Tryd.prog 26 #[.pointer (some ⟨p, 0, none⟩), .int .i64 k, .string (mk c)] W (BOut w H p x (.int .i64 (gE k fun n => sendE s1 n c)) (gS k s1 fun n => sendS s1 n c) s2 W) := by
  unfold gE gS
  by_cases hk : NoWay k
  · rw [if_pos hk, if_pos hk]
    exact (send_no p k hk.1 hk.2 _ W).mono fun ev W2 g => ⟨g.1, g.2 ▸ h, g.2 ▸ Keeps.refl _ _⟩
  · rw [if_neg hk, if_neg hk]
    obtain ⟨n, hn, rfl⟩ := way_nat hk
    obtain ⟨F, h1, h2, h3⟩ := h
    exact (ll_send h1 hn c (by simp [maxLen]; omega)).mono fun ev W2 g => ⟨g.1, BB.left h2 h3 g.2.1 g.2.2⟩
theorem bb_rinject (h : BB w H p x s1 s2 W) (k : Int) (c : Bs) (hc : c.length ≤ 281474976710656) :
    Calls Tryd.prog 43 #[.pointer (some ⟨x, 0, none⟩), .int .i64 k, .string (mk c)] W (BOut w H p x (.int .i64 (gE k fun n => injE s2 n c)) s1 (gS k s2 fun n => injS s2 n c) W) := by
  unfold gE gS
  by_cases hk : NoWay k
  · rw [if_pos hk, if_pos hk]
    exact (rinject_no x k hk.1 hk.2 _ W).mono fun ev W2 g => ⟨g.1, g.2 ▸ h, g.2 ▸ Keeps.refl _ _⟩
  · rw [if_neg hk, if_neg hk]
    obtain ⟨n, hn, rfl⟩ := way_nat hk
    obtain ⟨F, h1, h2, h3⟩ := h
    exact (rinject_any h2 hn c hc).mono fun ev W2 g => by obtain ⟨e, F', g1, g2, g3⟩ := g; exact ⟨e, BB.right h1 h3 g1 g2 g3⟩
theorem bb_rsend (h : BB w H p x s1 s2 W) (k : Int) (c : Bs) (hc : c.length ≤ 281474976710656) :
    Calls Tryd.prog 47 #[.pointer (some ⟨x, 0, none⟩), .int .i64 k, .string (mk c)] W (BOut w H p x (.int .i64 (gE k fun n => sendE s2 n c)) s1 (gS k s2 fun n => sendS s2 n c) W) := by
  unfold gE gS
  by_cases hk : NoWay k
  · rw [if_pos hk, if_pos hk]
    exact (rsend_no x k hk.1 hk.2 _ W).mono fun ev W2 g => ⟨g.1, g.2 ▸ h, g.2 ▸ Keeps.refl _ _⟩
  · rw [if_neg hk, if_neg hk]
    obtain ⟨n, hn, rfl⟩ := way_nat hk
    obtain ⟨F, h1, h2, h3⟩ := h
    exact (rsend_any h2 hn c (by simp [maxLen]; omega)).mono fun ev W2 g => by obtain ⟨e, F', g1, g2, g3⟩ := g; exact ⟨e, BB.right h1 h3 g1 g2 g3⟩
def BTake (w : World) (H : Nat → Prop) (p x : Nat) (r : List Bs × Int) (s1 s2 : Ls) (W : World) (ev : Ending) (W2 : World) : Prop :=
  ∃ ov, ev = .returned (.tuple #[ov, .int .i64 r.2]) ∧ RowAt W2 9 ov (r.1.map sV) ∧ BB w (HV H ov) p x s1 s2 W2 ∧ HK w H W W2
theorem bb_take (g : Glob w) (h : BB w H p x s1 s2 W) (k most : Int) (he : 0 ≤ s1.ep ∧ s1.ep ≤ 1000000) :
    Calls Tryd.prog 28 #[.pointer (some ⟨p, 0, none⟩), .int .i64 k, .int .i64 most] W (BTake w H p x (gT s1 k most) (gTS s1 k most) s2 W) := by
  unfold gT gTS
  by_cases hk : NoWay k ∨ most < 0
  · rw [if_pos hk, if_pos hk]
    refine (take_no p k most hk W).mono ?_
    rintro ev W2 ⟨rfl, rfl⟩
    refine ⟨_, rfl, RowAt.nil _ _, h.sub fun b hb => ?_, Keeps.refl _ _⟩
    rcases hb with hb | hb
    · exact hb
    · cases hb
  · rw [if_neg hk, if_neg hk]
    obtain ⟨n, hn, rfl⟩ := way_nat (k := k) fun h => hk (.inl h)
    obtain ⟨F, h1, h2, h3⟩ := h
    refine (ll_take g h1 hn most (by omega) he).mono ?_
    rintro ev W2 ⟨ov, rfl, a1, a2, a3, a4⟩
    refine ⟨ov, rfl, a1, ⟨F, a3.sub fun b hb => ?_, h2.keeps a4 fun b hb hz => hz.2 (.inl hb), fun b hb => ⟨(h3 b hb).1, fun hh => ?_⟩⟩, a4.mono fun b _ hz => ⟨hz.1, fun hh => hz.2 (.inr hh)⟩⟩
    · rcases hb with hb | hb | hb
      · exact .inl (.inl hb)
      · exact .inl (.inr hb)
      · exact .inr hb
    · rcases hh with hh | hh
      · exact (h3 b hb).2 hh
      · have := a2 b hh; have := h2.lt hb; omega
def BRTake (w : World) (H : Nat → Prop) (p x : Nat) (r : List Bs × Int) (s1 s2 : Ls) (W : World) (ev : Ending) (W2 : World) : Prop :=
  ∃ ov, ev = .returned (.tuple #[ov, .int .i64 r.2]) ∧ RowAt W2 9 ov (r.1.map sV) ∧ BB w H p x s1 s2 W2 ∧ HK w H W W2
theorem bb_rtake (h : BB w H p x s1 s2 W) (k most : Int) (he : 0 ≤ s2.ep ∧ s2.ep ≤ 1000000) :
    Calls Tryd.prog 44 #[.pointer (some ⟨x, 0, none⟩), .int .i64 k, .int .i64 most] W (BRTake w H p x (gT s2 k most) s1 (gTS s2 k most) W) := by
  unfold gT gTS
  by_cases hk : NoWay k ∨ most < 0
  · rw [if_pos hk, if_pos hk]
    refine (rtake_no x k most hk W).mono ?_
    rintro ev W2 ⟨rfl, rfl⟩
    exact ⟨_, rfl, RowAt.nil _ _, h, Keeps.refl _ _⟩
  · rw [if_neg hk, if_neg hk]
    obtain ⟨n, hn, rfl⟩ := way_nat (k := k) fun h => hk (.inl h)
    obtain ⟨F, h1, h2, h3⟩ := h
    refine (rtake_any h2 hn most (by omega) he).mono ?_
    rintro ev W2 ⟨ov, rfl, a1, F', g1, g2, g3⟩
    exact ⟨ov, rfl, a1, BB.right h1 h3 g1 g2 g3⟩
theorem bb_tick (h : BB w H p x s1 s2 W) (hg : 0 ≤ s1.gone ∧ s1.gone ≤ 1000000) : Calls Tryd.prog 37 #[.pointer (some ⟨p, 0, none⟩)] W (BOut w H p x (tickV (s1.gone + 1)) { s1 with gone := s1.gone + 1 } s2 W) := by
  obtain ⟨F, h1, h2, h3⟩ := h
  exact (ll_tick h1 hg).mono fun ev W2 g => ⟨g.1, BB.left h2 h3 g.2.1 g.2.2⟩
theorem bb_rtick (h : BB w H p x s1 s2 W) (hg : 0 ≤ s2.gone ∧ s2.gone ≤ 1000000) : Calls Tryd.prog 45 #[.pointer (some ⟨x, 0, none⟩)] W (BOut w H p x (tickV (s2.gone + 1)) s1 { s2 with gone := s2.gone + 1 } W) := by
  obtain ⟨F, h1, h2, h3⟩ := h
  exact (rtick_any h2 hg).mono fun ev W2 g => by obtain ⟨e, F', g1, g2, g3⟩ := g; exact ⟨e, BB.right h1 h3 g1 g2 g3⟩
theorem bb_heard (h : BB w H p x s1 s2 W) : Calls Tryd.prog 38 #[.pointer (some ⟨p, 0, none⟩)] W (BOut w H p x (.tuple #[]) { s1 with gone := 0 } s2 W) := by
  obtain ⟨F, h1, h2, h3⟩ := h
  exact (ll_heard h1).mono fun ev W2 g => ⟨g.1, BB.left h2 h3 g.2.1 g.2.2⟩
theorem bb_rheard (h : BB w H p x s1 s2 W) : Calls Tryd.prog 46 #[.pointer (some ⟨x, 0, none⟩)] W (BOut w H p x (.tuple #[]) s1 { s2 with gone := 0 } W) := by
  obtain ⟨F, h1, h2, h3⟩ := h
  exact (rheard_any h2).mono fun ev W2 g => by obtain ⟨e, F', g1, g2, g3⟩ := g; exact ⟨e, BB.right h1 h3 g1 g2 g3⟩
theorem bb_reset (h : BB w H p x s1 s2 W) (he : 0 ≤ s1.ep ∧ s1.ep ≤ 1000000) : Calls Tryd.prog 31 #[.pointer (some ⟨p, 0, none⟩)] W (BOut w H p x (.tuple #[]) (zeroS (s1.ep + 1)) s2 W) := by
  obtain ⟨F, h1, h2, h3⟩ := h
  exact (ll_reset h1 he).mono fun ev W2 g => ⟨g.1, BB.left h2 h3 g.2.1 g.2.2⟩
theorem bb_rreset (h : BB w H p x s1 s2 W) (he : 0 ≤ s2.ep ∧ s2.ep ≤ 1000000) : Calls Tryd.prog 42 #[.pointer (some ⟨x, 0, none⟩)] W (BOut w H p x (.tuple #[]) s1 (zeroS (s2.ep + 1)) W) := by
  obtain ⟨F, h1, ⟨q, t, r0, r1, h2, h0⟩, h3⟩ := h
  refine (rreset_any h2.own he).mono ?_
  rintro ev W2 ⟨rfl, ⟨F', g1, g2⟩, g3⟩
  exact ⟨rfl, BB.right h1 h3 g1 (fun b hb => (g2 b hb).imp (fun h => by subst h; exact (h0 b).2 (.inl rfl)) id) (g3.mono fun b _ hb => by subst hb; exact (h0 b).2 (.inl rfl))⟩
theorem bb_epoch (h : BB w H p x s1 s2 W) : Calls Tryd.prog 29 #[.pointer (some ⟨p, 0, none⟩)] W fun e w' => e = .returned (.int .u64 s1.ep) ∧ W = w' := by
  obtain ⟨F, h1, h2, h3⟩ := h; exact ll_epoch h1
theorem BB.epoch (h : BB w H p x s1 s2 W) : W.cell? ⟨x, 2, none⟩ = some (.int .u64 s2.ep) ∧ x < W.heap.size := by
  obtain ⟨F, h1, ⟨q, t, r0, r1, h2, h0⟩, h3⟩ := h; exact ⟨h2.o2, lt_at h2.own⟩
theorem bb_waiting (h : BB w H p x s1 s2 W) (k : Int) : Calls Tryd.prog 27 #[.pointer (some ⟨p, 0, none⟩), .int .i64 k] W fun e w' => e = .returned (.int .i64 (gW k s1)) ∧ W = w' := by
  unfold gW
  by_cases hk : NoWay k
  · rw [if_pos hk]; exact waiting_no p k hk.1 hk.2 W
  · rw [if_neg hk]
    obtain ⟨n, hn, rfl⟩ := way_nat hk
    obtain ⟨F, h1, h2, h3⟩ := h; exact ll_waiting h1 hn
theorem bb_rwaiting (h : BB w H p x s1 s2 W) (k : Int) : Calls Tryd.prog 35 #[.pointer (some ⟨x, 0, none⟩), .int .i64 k] W fun e w' => e = .returned (.int .i64 (gW k s2)) ∧ W = w' := by
  unfold gW
  by_cases hk : NoWay k
  · rw [if_pos hk]; exact rwaiting_no x k hk.1 hk.2 W
  · rw [if_neg hk]
    obtain ⟨n, hn, rfl⟩ := way_nat hk
    obtain ⟨F, h1, h2, h3⟩ := h; exact rwaiting_any h2 hn
theorem bb_space (h : BB w H p x s1 s2 W) (k : Int) : Calls Tryd.prog 32 #[.pointer (some ⟨p, 0, none⟩), .int .i64 k] W fun e w' => e = .returned (.int .i64 (gR k s1)) ∧ W = w' := by
  unfold gR
  by_cases hk : NoWay k
  · rw [if_pos hk]; exact space_no p k hk.1 hk.2 W
  · rw [if_neg hk]
    obtain ⟨n, hn, rfl⟩ := way_nat hk
    obtain ⟨F, h1, h2, h3⟩ := h; exact ll_space h1 hn
theorem bb_rspace (h : BB w H p x s1 s2 W) (k : Int) : Calls Tryd.prog 36 #[.pointer (some ⟨x, 0, none⟩), .int .i64 k] W fun e w' => e = .returned (.int .i64 (gR k s2)) ∧ W = w' := by
  unfold gR
  by_cases hk : NoWay k
  · rw [if_pos hk]; exact rspace_no x k hk.1 hk.2 W
  · rw [if_neg hk]
    obtain ⟨n, hn, rfl⟩ := way_nat hk
    obtain ⟨F, h1, h2, h3⟩ := h; exact rspace_any h2 hn
end
end Go.Proofs.YtfijpnhnlpgkgaaDoor
