/-
  LinkResets walked: it returns true at every pair of texts, wherever it is cut, whichever way it is reset.
  Conditions: the variables errShort and errors.errorType hold what the text lays.
-/
import Derived.Test.YtfijpnhnlpgkgaaDoorBytes8Walk
namespace Go.Proofs.YtfijpnhnlpgkgaaDoor
open Go.RowKit
set_option maxRecDepth 100000 in
set_option maxHeartbeats 4000000 in
theorem resets_any (S1 S2 : Bs) (z0 : Int) (wrong : Bool) (w : World) (g : Glob w) (h1 : S1.length ≤ maxLen) (h2 : S2.length ≤ maxLen) (hz : 0 ≤ z0 ∧ z0 ≤ 255) :
    Calls Tryd.prog 9 #[.string (mk S1), .string (mk S2), .int .u8 z0, .bool wrong] w fun e w' => e = .returned (.bool true) ∧ Keeps (fun _ => False) w w' := by
  have CE := Lib.hid (lexam_any w g)
  have HG := Lib.hid g
  unfold maxLen at h1 h2
  obtain ⟨z, hz1⟩ : ∃ z : Nat, z0 % 5 = z := ⟨(z0 % 5).toNat, by omega⟩
  have hz2 : z0.tmod 5 = z := by rw [Int.tmod_eq_emod_of_nonneg hz.1, hz1]
  have hz3 : z ≤ 4 := by omega
  obtain ⟨q1, hq1⟩ : ∃ q, min S1.length 60 = q := ⟨_, rfl⟩
  obtain ⟨q2, hq2⟩ : ∃ q, min S2.length 60 = q := ⟨_, rfl⟩
  obtain ⟨m1, hm1⟩ : ∃ m, 115 :: S1.take 60 = m := ⟨_, rfl⟩
  obtain ⟨m2, hm2⟩ : ∃ m, 116 :: S2.take 60 = m := ⟨_, rfl⟩
  have hx1 := cut_str 115 S1 60 q1 hq1
  have hx2 := cut_str 116 S2 60 q2 hq2
  rw [hm1] at hx1
  rw [hm2] at hx2
  have hl1 : 1 ≤ m1.length ∧ m1.length ≤ 61 := by rw [← hm1]; simp; omega
  have hl2 : 1 ≤ m2.length ∧ m2.length ≤ 61 := by rw [← hm2]; simp; omega
  have hs1 : (mk S1).size = S1.length := mk_size _
  have hs2 : (mk S2).size = S2.length := mk_size _
  obtain ⟨s1, e1⟩ : ∃ s, mk S1 = s := ⟨_, rfl⟩
  obtain ⟨s2, e2⟩ : ∃ s, mk S2 = s := ⟨_, rfl⟩
  rw [e1] at hs1 hx1 ⊢
  rw [e2] at hs2 hx2 ⊢
  have hn1 : (if (60 : Int) < (s1.size : Int) then (60 : Int) else s1.size) = (q1 : Int) := by split <;> omega
  have hn2 : (if (60 : Int) < (s2.size : Int) then (60 : Int) else s2.size) = (q2 : Int) := by split <;> omega
  have hqs1 : q1 ≤ s1.size := by omega
  have hqs2 : q2 ≤ s2.size := by omega
  have hb1 : s1.size ≤ 9223372036854775807 := by omega
  have hb2 : s2.size ≤ 9223372036854775807 := by omega
  have HX1 := Lib.hid hx1
  -- the first text is sent, and a part of its length taken
  have HS1 : ∀ W p, LL w (fun _ => False) p (zeroS 1) W → Calls Tryd.prog 26 #[.pointer (some ⟨p, 0, none⟩), .int .i64 0, .string (mk m1)] W fun ev W2 => ev = .returned (.int .i64 0) ∧ LL w (fun _ => False) p { zeroS 1 with wait := upd (zeroS 1).wait 0 (frm m1) } W2 := fun W p h => by
    have C := ll_send h (k := 0) (by decide) m1 (by simp [maxLen]; omega)
    obtain ⟨f1, f2⟩ := send_fits (s := zeroS 1) (k := 0) (m := m1) hl1.1 (by omega) (by simp [zeroS]; omega)
    rw [f1, f2] at C
    exact C.mono fun ev W2 h2 => ⟨h2.1, h2.2.1⟩
  have HT1 : ∀ W p, LL w (fun _ => False) p { zeroS 1 with wait := upd (zeroS 1).wait 0 (frm m1) } W → Calls Tryd.prog 28 #[.pointer (some ⟨p, 0, none⟩), .int .i64 0, .int .i64 z] W fun ev W2 => ∃ a c, ev = .returned (.tuple #[.slice a 0 c, .int .i64 0]) ∧
      ∃ s, LL w (fun _ => False) p s W2 ∧ s.ep = 1 ∧ s.wait 1 = [] ∧ s.rest 1 = [] := fun W p h => by
    have C := ll_take HG.out h (k := 0) (by decide) z (by omega) (by show (0 : Int) ≤ 1 ∧ (1 : Int) ≤ 1000000; decide)
    obtain ⟨f1, f2⟩ := take_some (s := { zeroS 1 with wait := upd (zeroS 1).wait 0 (frm m1) }) (k := 0) (n := z) (most := z) (ms := []) (r := (frm m1).take z)
      (by show min (z : Int).toNat (frm m1).length = z; rw [frm_length]; omega) (parse_part m1 z hl1.1 (by omega) (by omega))
    unfold TakeOut at C
    rw [f1, f2] at C
    refine C.mono fun ev W2 h2 => ?_
    obtain ⟨ov, h3, h4, _, h5, _⟩ := h2
    obtain ⟨a, c, rfl⟩ := h4.val
    exact ⟨a, c, h3, _, h5.sub fun b hb => hb.elim, rfl, rfl, rfl⟩
  have HI1 : ∀ W p s, LL w (fun _ => False) p s W → s.ep = 1 → s.wait 1 = [] → s.rest 1 = [] → Calls Tryd.prog 30 #[.pointer (some ⟨p, 0, none⟩), .int .i64 1, .string (mk [0, 0, 0, 0])] W fun ev W2 => ev = .returned (.int .i64 0) ∧
      ∃ s, LL w (fun _ => False) p s W2 ∧ s.ep = 1 ∧ s.wait 1 = [0, 0, 0, 0] ∧ s.rest 1 = [] := fun W p s h a1 a2 a3 => by
    have C := ll_inject h (k := 1) (by decide) [0, 0, 0, 0] (by simp [maxLen])
    obtain ⟨f1, f2⟩ := inj_fits (s := s) (k := 1) (c := [0, 0, 0, 0]) (by rw [a2]; decide)
    rw [f1, f2, a2] at C
    exact C.mono fun ev W2 h2 => ⟨h2.1, { s with wait := upd s.wait 1 [0, 0, 0, 0] }, h2.2.1, a1, rfl, a3⟩
  have HT2 : ∀ W p s, LL w (fun _ => False) p s W → s.ep = 1 → s.wait 1 = [0, 0, 0, 0] → s.rest 1 = [] → Calls Tryd.prog 28 #[.pointer (some ⟨p, 0, none⟩), .int .i64 1, .int .i64 4] W fun ev W2 => ∃ a c, ev = .returned (.tuple #[.slice a 0 c, .int .i64 2]) ∧
      LL w (fun _ => False) p (zeroS 2) W2 := fun W p s h a1 a2 a3 => by
    have C := ll_take HG.out h (k := 1) (by decide) 4 (by omega) (by omega)
    have f1 : takeP s 1 4 = ([], [], 2) := by unfold takeP takeN; rw [a2, a3]; exact parse_zero (by decide) (by decide)
    have f2 : takeS s 1 4 = zeroS 2 := by unfold takeS; rw [f1, if_neg (by decide), a1]; rfl
    unfold TakeOut at C
    rw [f1, f2] at C
    refine C.mono fun ev W2 h2 => ?_
    obtain ⟨ov, h3, h4, _, h5, _⟩ := h2
    obtain ⟨a, c, rfl⟩ := h4.val
    exact ⟨a, c, h3, h5.sub fun b hb => hb.elim⟩
  have HR : ∀ W p s, LL w (fun _ => False) p s W → s.ep = 1 → Calls Tryd.prog 31 #[.pointer (some ⟨p, 0, none⟩)] W fun ev W2 => ev = .returned (.tuple #[]) ∧ LL w (fun _ => False) p (zeroS 2) W2 := fun W p s h a1 => by
    have C := ll_reset h (by omega)
    rw [a1] at C
    exact C.mono fun ev W2 h2 => ⟨h2.1, h2.2.1⟩
  have HT3 : ∀ W p, LL w (fun _ => False) p (zeroS 2) W → Calls Tryd.prog 28 #[.pointer (some ⟨p, 0, none⟩), .int .i64 0, .int .i64 1000] W fun ev W2 => ∃ a c, ev = .returned (.tuple #[.slice a 0 c, .int .i64 0]) ∧
      ∃ s, LL w (fun _ => False) p s W2 ∧ s.ep = 2 ∧ s.wait 0 = [] ∧ s.rest 0 = [] := fun W p h => by
    have C := ll_take HG.out h (k := 0) (by decide) 1000 (by omega) ⟨by decide, by decide⟩
    obtain ⟨f1, f2⟩ := take_all (s := zeroS 2) (k := 0) (most := 1000) (ms := []) (by decide) (parse_short (by decide))
    unfold TakeOut at C
    rw [f1, f2] at C
    refine C.mono fun ev W2 h2 => ?_
    obtain ⟨ov, h3, h4, _, h5, _⟩ := h2
    obtain ⟨a, c, rfl⟩ := h4.val
    exact ⟨a, c, h3, _, h5.sub fun b hb => hb.elim, rfl, rfl, rfl⟩
  have HS2 : ∀ W p s, LL w (fun _ => False) p s W → s.ep = 2 → s.wait 0 = [] → s.rest 0 = [] → Calls Tryd.prog 26 #[.pointer (some ⟨p, 0, none⟩), .int .i64 0, .string (mk m2)] W fun ev W2 => ev = .returned (.int .i64 0) ∧
      ∃ s, LL w (fun _ => False) p s W2 ∧ s.ep = 2 ∧ s.wait 0 = frm m2 ∧ s.rest 0 = [] := fun W p s h a1 a2 a3 => by
    have C := ll_send h (k := 0) (by decide) m2 (by simp [maxLen]; omega)
    obtain ⟨f1, f2⟩ := send_fits (s := s) (k := 0) (m := m2) hl2.1 (by omega) (by rw [a2]; simp; omega)
    rw [f1, f2, a2] at C
    exact C.mono fun ev W2 h2 => ⟨h2.1, { s with wait := upd s.wait 0 (frm m2) }, h2.2.1, a1, rfl, a3⟩
  have HT4 : ∀ W p s, LL w (fun _ => False) p s W → s.ep = 2 → s.wait 0 = frm m2 → s.rest 0 = [] → Calls Tryd.prog 28 #[.pointer (some ⟨p, 0, none⟩), .int .i64 0, .int .i64 1000] W fun ev W2 => ∃ b o c, ev = .returned (.tuple #[.slice (some ⟨b, o, none⟩) 1 c, .int .i64 0]) ∧ 1 ≤ c ∧ c ≤ maxLen ∧
      W2.cell? ⟨b, o, none⟩ = some (.string (mk m2)) ∧ ∃ s, LL w (fun b' => b' = b) p s W2 ∧ s.ep = 2 := fun W p s h a1 a2 a3 => by
    have C := ll_take HG.out h (k := 0) (by decide) 1000 (by omega) (by omega)
    obtain ⟨f1, f2⟩ := take_all (s := s) (k := 0) (most := 1000) (ms := [m2]) (by rw [a2, frm_length]; omega) (by rw [a2, a3]; exact parse_one hl2.1 (by omega))
    unfold TakeOut at C
    rw [f1, f2] at C
    refine C.mono fun ev W2 h2 => ?_
    obtain ⟨ov, h3, h4, _, h5, _⟩ := h2
    obtain ⟨b, o, c, rfl, c1, c2, hc⟩ := h4.cells (by simp)
    exact ⟨b, o, c, h3, c1, c2, hc 0 (by simp), _, h5.sub fun b' hb => .inr (by rw [hb]; rfl), a1⟩
  replace HS1 := Lib.hid HS1
  replace HT1 := Lib.hid HT1
  replace HI1 := Lib.hid HI1
  replace HT2 := Lib.hid HT2
  replace HR := Lib.hid HR
  replace HT3 := Lib.hid HT3
  replace HS2 := Lib.hid HS2
  replace HT4 := Lib.hid HT4
  obtain ⟨V1, hV1⟩ : ∃ V, mk m1 = V := ⟨_, rfl⟩
  obtain ⟨V2, hV2⟩ : ∃ V, mk m2 = V := ⟨_, rfl⟩
  rw [hV1] at HX1 HS1
  rw [hV2] at hx2 HS2 HT4
  have HX2 := Lib.hid hx2
  have h0000 : (⟨#[0, 0, 0, 0]⟩ : ByteArray) = mk [0, 0, 0, 0] := rfl
  rw [← h0000] at HI1
  clear g hz1 hq1 hq2 hm1 hm2 hx1 hx2 hs1 hs2 e1 e2 hV1 hV2 h0000 h1 h2 HG
  cases wrong
  all_goals
    go_enter Tryd.func9, Tryd.ntmps9
    go_wp2_with fail
    refine CE.out.mono ?_; rintro e w1 ⟨rfl, k1⟩
    have CN := Lib.hid (ll_new (H := fun _ => False) k1 fun _ => False.elim)
    clear k1 CE
    go_wp2_with fail
    refine CN.out.mono ?_; rintro e w2 ⟨p, rfl, h2, _⟩
    have CS := Lib.hid (HS1.out _ _ h2)
    clear h2 CN HS1
    go_wp2_with fail
    rw [HX1.out]
    refine CS.out.mono ?_; rintro e w3 ⟨rfl, h3⟩
    have CT := Lib.hid (HT1.out _ _ h3)
    clear h3 CS HX1 HT1
    go_wp2_with fail
    refine CT.out.mono ?_; rintro e w4 ⟨a4, c4, rfl, s4, h4, f1, f2, f3⟩
    have CR := Lib.hid (HR.out _ _ _ h4 f1)
    have CI := Lib.hid (HI1.out _ _ _ h4 f1 f2 f3)
    clear h4 f1 f2 f3 CT HI1 HR
    go_wp2_with fail
    first
    | (go_at_call 31
       refine CR.out.mono ?_; rintro e w5 ⟨rfl, h5⟩)
    | (go_at_call 30
       refine CI.out.mono ?_; rintro e w6 ⟨rfl, s6, h6, f1, f2, f3⟩
       have CT2 := Lib.hid (HT2.out _ _ _ h6 f1 f2 f3)
       clear h6 f1 f2 f3
       go_wp2_with fail
       refine CT2.out.mono ?_; rintro e w5 ⟨a6, c6, rfl, h5⟩
       clear CT2)
    have CT := Lib.hid (HT3.out _ _ h5)
    clear h5 CR CI HT2 HT3
    go_wp2_with fail
    refine CT.out.mono ?_; rintro e w6 ⟨a7, c7, rfl, s7, h7, f1, f2, f3⟩
    have CS := Lib.hid (HS2.out _ _ _ h7 f1 f2 f3)
    clear h7 f1 f2 f3 CT HS2
    go_wp2_with fail
    rw [HX2.out]
    refine CS.out.mono ?_; rintro e w7 ⟨rfl, s8, h8, f1, f2, f3⟩
    have CT := Lib.hid (HT4.out _ _ _ h8 f1 f2 f3)
    clear h8 f1 f2 f3 CS HT4
    go_wp2_with fail
    refine CT.out.mono ?_; rintro e w8 ⟨b9, o9, c9, rfl, hc9, hc8, hcell, s9, h9, f1⟩
    have CE := fun n => ll_epoch (h9.step ((Keeps.refl _ _).drewN n))
    rw [f1] at CE
    replace CE := Lib.hid CE
    have HE := Lib.hid h9.keeps
    clear h9 f1 CT
    have hx2 := HX2.out
    go_wp2_with (go_quiet (first | (go_at_call 29; refine Calls.quiet_of_same ((CE.out _).mono fun e w' h => ⟨h.1, h.2.symm⟩))))
    go_ret
    exact ⟨rfl, HE.out.drewN _⟩
end Go.Proofs.YtfijpnhnlpgkgaaDoor
