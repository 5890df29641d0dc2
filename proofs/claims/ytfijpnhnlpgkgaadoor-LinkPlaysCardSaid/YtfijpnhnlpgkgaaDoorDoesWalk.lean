/-
  The law's own function does (chapter 8) walked: both links answer alike at every deed, and are alike behind it.
  Conditions: the variables errShort and errors.errorType hold what the text lays; fewer than a thousand epochs and ticks; a text takes at most 2^47 bytes.
-/
import Derived.Test.YtfijpnhnlpgkgaaDoorLinkBoth
import Derived.Test.YtfijpnhnlpgkgaaDoorFullWalk
import Derived.Deep.RegionHeld3
import Derived.Deep.DeepCutAuto
import Derived.BigQuiet
namespace Go.Proofs.YtfijpnhnlpgkgaaDoor
open Go.RowKit
/-- both links, and a deed in a block of its own; what is held is G -/
structure BD (w : World) (H G : Nat → Prop) (p x : Nat) (s1 s2 : Ls) (W0 : World) (db : Nat) (u : Array Value) (W : World) : Prop where
  bb : BB w G p x s1 s2 W
  hg : ∀ b, H b → G b
  gd : G db
  deed : W.heap[db]? = some (.cells u 66 (0, 0))
  hk : HK w H W0 W
section
variable {w W W0 W2 : World} {H G : Nat → Prop} {p x db : Nat} {s1 s2 s1' s2' : Ls} {u : Array Value}
theorem BD.op (h : BD w H G p x s1 s2 W0 db u W) (g : BB w G p x s1' s2' W2) (k : HK w G W W2) : BD w H G p x s1' s2' W0 db u W2 :=
  ⟨g, h.hg, h.gd, (k.block db (lt_at h.deed) fun hz => hz.2 h.gd).trans h.deed, h.hk.trans (k.mono fun b _ hz => ⟨hz.1, fun hh => hz.2 (h.hg b hh)⟩)⟩
theorem BD.op' {G' : Nat → Prop} (h : BD w H G p x s1 s2 W0 db u W) (hG : ∀ b, G b → G' b) (g : BB w G' p x s1' s2' W2) (k : HK w G W W2) : BD w H G' p x s1' s2' W0 db u W2 :=
  ⟨g, fun b hb => hG b (h.hg b hb), hG db h.gd, (k.block db (lt_at h.deed) fun hz => hz.2 h.gd).trans h.deed, h.hk.trans (k.mono fun b _ hz => ⟨hz.1, fun hh => hz.2 (h.hg b hh)⟩)⟩
theorem BD.step (h : BD w H G p x s1 s2 W0 db u W) (k : Keeps (fun _ => False) W W2) : BD w H G p x s1 s2 W0 db u W2 := h.op (h.bb.step k) (HK.of_keeps k)
theorem BD.cell (h : BD w H G p x s1 s2 W0 db u W) (o : Nat) {v : Value} (hv : u[o]? = some v) : W.cell? ⟨db, o, none⟩ = some v := by rw [cell_at h.deed, hv]
end
def DOut (w : World) (H : Nat → Prop) (p x : Nat) (s : Ls) (W : World) (ev : Ending) (W2 : World) : Prop :=
  ev = .returned (.bool true) ∧ ∃ s', BB w H p x s' s' W2 ∧ (0 ≤ s'.ep ∧ s'.ep ≤ s.ep + 1 ∧ 0 ≤ s'.gone ∧ s'.gone ≤ s.gone + 1) ∧ HK w H W W2
theorem gS_inj (k : Int) (s : Ls) (c : Bs) : (gS k s fun n => injS s n c).ep = s.ep ∧ (gS k s fun n => injS s n c).gone = s.gone := by
  unfold gS injS; split
  · exact ⟨rfl, rfl⟩
  · dsimp only; split <;> exact ⟨rfl, rfl⟩
theorem gS_send (k : Int) (s : Ls) (c : Bs) : (gS k s fun n => sendS s n c).ep = s.ep ∧ (gS k s fun n => sendS s n c).gone = s.gone := by
  unfold gS sendS; split
  · exact ⟨rfl, rfl⟩
  · dsimp only; split
    · unfold injS; split <;> exact ⟨rfl, rfl⟩
    · exact ⟨rfl, rfl⟩
theorem gTS_facts (k most : Int) (s : Ls) : ((gTS s k most).ep = s.ep ∧ (gTS s k most).gone = s.gone) ∨ ((gTS s k most).ep = s.ep + 1 ∧ (gTS s k most).gone = 0) := by
  unfold gTS takeS; split
  · exact .inl ⟨rfl, rfl⟩
  · split
    · exact .inl ⟨rfl, rfl⟩
    · exact .inr ⟨rfl, rfl⟩
theorem gT_count (k most : Int) (s : Ls) (hs : ∀ n, n < 2 → (s.wait n).length ≤ 262144 ∧ (s.rest n).length < 65540) : (gT s k most).1.length ≤ 400000 := by
  unfold gT; split
  · simp
  · rename_i h
    obtain ⟨n, hn, rfl⟩ := way_nat (k := k) fun hh => h (.inl hh)
    have hf := parse_facts _ (s.rest n ++ (s.wait n).take (takeN s n most)) (Nat.le_refl _)
    rw [List.length_append, List.length_take] at hf
    have := hs n hn
    show (takeP s n most).1.length ≤ _
    unfold takeP
    omega
theorem BB.len {w W : World} {H : Nat → Prop} {p x : Nat} {s1 s2 : Ls} (h : BB w H p x s1 s2 W) : ∀ n, n < 2 → (s1.wait n).length ≤ 262144 ∧ (s1.rest n).length < 65540 := by
  obtain ⟨F, h1, _⟩ := h; exact fun n hn => h1.len hn
set_option maxRecDepth 100000 in
set_option maxHeartbeats 4000000 in
theorem does_any {w W : World} {H : Nat → Prop} {p x : Nat} {s : Ls} (g : Glob w) (h : BB w H p x s s W) (hs : 0 ≤ s.ep ∧ s.ep ≤ 1000 ∧ 0 ≤ s.gone ∧ s.gone ≤ 1000) (kd way N : Int) (S : Bs) (lg : Bool) (hkd : 0 ≤ kd ∧ kd ≤ 255) (hS : S.length ≤ 140737488351232) :
    Calls Tryd.prog 34 #[.pointer (some ⟨p, 0, none⟩), .pointer (some ⟨x, 0, none⟩), .agg #[.int .u8 kd, .int .i64 way, .string (mk S), .int .i64 N, .bool lg]] W (DOut w H p x s W) := by
  obtain ⟨i5, hi5, hx0, hx1, hx2⟩ := info_parts Tryd.info5
  have HG := Lib.hid g
  have HBB := Lib.hid h
  have hss : (mk S).size = S.length := mk_size _
  have hsx : mk S ++ mk (zeros sixty) = mk (S ++ zeros sixty) := mk_append _ _
  have hzs : (mk (zeros sixty)).size = sixty := by rw [mk_size, zeros_len]
  obtain ⟨sv, hsv⟩ : ∃ sv, mk S = sv := ⟨_, rfl⟩
  rw [hsv] at hss hsx ⊢
  have HSV := Lib.hid hsv
  have hsl : sv.size ≤ 140737488351232 := by omega
  obtain ⟨z, hz⟩ : ∃ z, kd % 8 = z := ⟨_, rfl⟩
  have hz1 : 0 ≤ z ∧ z ≤ 7 := by omega
  have hz2 : kd.tmod 8 = z := by rw [Int.tmod_eq_emod_of_nonneg hkd.1, hz]
  clear g h hss hsv hz
  have hHD : ∀ W4, Keeps (fun _ => False) (W.alloc (.cells #[.int .u8 kd, .int .i64 way, .string sv, .int .i64 N, .bool lg] 66)) W4 → BD w H (fun b => H b ∨ b = W.heap.size) p x s s W W.heap.size #[.int .u8 kd, .int .i64 way, .string sv, .int .i64 N, .bool lg] W4 := fun W4 h4 => by
    have h0 : BD w H (fun b => H b ∨ b = W.heap.size) p x s s W W.heap.size #[.int .u8 kd, .int .i64 way, .string sv, .int .i64 N, .bool lg] (W.alloc (.cells #[.int .u8 kd, .int .i64 way, .string sv, .int .i64 N, .bool lg] 66)) :=
      ⟨HBB.out.write ((Keeps.refl (fun _ => False) W).alloc _) (fun _ _ => False.elim) (fun b hb => by rcases hb with hb | hb; exact .inl hb; exact .inr (by rw [hb]; simp)), fun b hb => .inl hb, .inr rfl, heap_alloc_new _ _, HK.of_keeps ((Keeps.refl _ _).alloc _)⟩
    exact h0.step h4
  have HHD := Lib.hid hHD
  have HNE := Lib.hid (show ∀ b, H b → b ≠ W.heap.size from fun b hb e => by obtain ⟨F, ⟨F0, _, _, a3, _⟩, _⟩ := HBB.out; have := a3 b (.inr hb); omega)
  clear hHD
  cases lg
  case' false =>
    have HC := Lib.hid (show ∃ c : Bs, mk c = sv ∧ c.length ≤ 281474976710656 from ⟨S, HSV.out, by omega⟩)
    go_enter Tryd.func34, Tryd.ntmps34
    go_upto_region 4 with fail
    have HD := Lib.hid (HHD.out _ (Keeps.refl _ _))
    obtain ⟨db, hdb⟩ : ∃ db, W.heap.size = db := ⟨_, rfl⟩
    obtain ⟨W4, hW4⟩ : ∃ W4, W.alloc (.cells #[.int .u8 kd, .int .i64 way, .string sv, .int .i64 N, .bool false] 66) = W4 := ⟨_, rfl⟩
    rw [hdb] at HD HNE ⊢
    rw [hW4] at HD ⊢
    clear hW4 hdb HHD hsx hzs hsl HSV
    obtain ⟨G, hG⟩ : ∃ G, (fun b => H b ∨ b = db) = G := ⟨_, rfl⟩
    obtain ⟨u, hu⟩ : ∃ u : Array Value, #[.int .u8 kd, .int .i64 way, .string sv, .int .i64 N, .bool false] = u := ⟨_, rfl⟩
    have HU := Lib.hid (show u[0]? = some (.int .u8 kd) ∧ u[1]? = some (.int .i64 way) ∧ u[3]? = some (.int .i64 N) from by rw [← hu]; exact ⟨rfl, rfl, rfl⟩)
    rw [hG, hu] at HD
    clear hG hu HNE
    obtain ⟨tv, htv⟩ : ∃ tv, tv = sv := ⟨_, rfl⟩
    subst htv
  case' true =>
    have HC := Lib.hid (show ∃ c : Bs, mk c = mk (S ++ zeros sixty) ∧ c.length ≤ 281474976710656 from ⟨_, rfl, by rw [List.length_append, zeros_len]; unfold sixty; omega⟩)
    go_enter Tryd.func34, Tryd.ntmps34
    go_wp2_with (refine wpList_make_full _ rfl (.const (.int .i64 60000)) (.const (.int .i64 60000)) 41 rfl (W.heap.size + 1) 5 i5 (.int .u8 0) 1 Tryd.underlying41 hi5 hx0 hx1 .i64 .i64 (sixty : Int) (sixty : Int) sixty rfl rfl rfl rfl ?b2 ?b3 (by simp) ?_)
    case b2 => rw [hx2]; unfold sixty; omega
    case b3 => unfold sixty; simp [maxLen]
    intro W4 r4 g4
    have hrow4 := row_of_owns r4
    rw [made_zero] at hrow4
    have hconv0 := hrow4.conv
    have hk4 : Keeps (fun _ => False) (W.alloc (.cells #[.int .u8 kd, .int .i64 way, .string sv, .int .i64 N, .bool true] 66)) W4 := (Keeps.refl (fun _ => False) _).grown g4 nofun
    have hD := HHD.out _ hk4
    have c0 := hD.cell 0 rfl
    have HD := Lib.hid hD
    obtain ⟨db, hdb⟩ : ∃ db, W.heap.size = db := ⟨_, rfl⟩
    rw [hdb] at HD HNE c0
    obtain ⟨Z, hZ⟩ : ∃ Z, mk (zeros sixty) = Z := ⟨_, rfl⟩
    rw [hZ] at hsx hzs
    have hconv4 : (convert 41 9 (.slice (some ⟨db + 1, 0, none⟩) sixty sixty)).run Tryd.prog W4 = .ok (.string Z) W4 := by rw [← hZ, ← hdb]; exact hconv0
    obtain ⟨tv, htv⟩ : ∃ tv, mk (S ++ zeros sixty) = tv := ⟨_, rfl⟩
    rw [htv] at HC hsx
    have HSX := Lib.hid hsx
    have hzs' : Z.size ≤ 60000 := by rw [hzs]; exact Nat.le_refl _
    clear hsx htv hD hk4 hconv0 hrow4 hZ r4 g4 HHD HSV hzs
    go_upto_region 4 with fail
    rw [HSX.out, hdb]
    clear hdb HSX hzs' hconv4 c0 hsl
    obtain ⟨G, hG⟩ : ∃ G, (fun b => H b ∨ b = db) = G := ⟨_, rfl⟩
    obtain ⟨u, hu⟩ : ∃ u : Array Value, #[.int .u8 kd, .int .i64 way, .string sv, .int .i64 N, .bool true] = u := ⟨_, rfl⟩
    have HU := Lib.hid (show u[0]? = some (.int .u8 kd) ∧ u[1]? = some (.int .i64 way) ∧ u[3]? = some (.int .i64 N) from by rw [← hu]; exact ⟨rfl, rfl, rfl⟩)
    rw [hG, hu] at HD
    clear hG hu HNE
  all_goals
    obtain ⟨c, hc1, hc2⟩ := HC.out
    have HCc := Lib.hid hc1
    have HFin := Lib.hid (show ∀ G s' W5, BD w H G p x s' s' W db u W5 → (0 ≤ s'.ep ∧ s'.ep ≤ s.ep + 1 ∧ 0 ≤ s'.gone ∧ s'.gone ≤ s.gone + 1) → DOut w H p x s W (.returned (.bool true)) W5 from fun G s' W5 h hb => ⟨rfl, s', h.bb.sub h.hg, hb, h.hk⟩)
    have d0 : W4.cell? ⟨db, 0, none⟩ = some (.int .u8 kd) := HD.out.cell 0 HU.out.1
    have d1 : W4.cell? ⟨db, 1, none⟩ = some (.int .i64 way) := HD.out.cell 1 HU.out.2.1
    have d3 : W4.cell? ⟨db, 3, none⟩ = some (.int .i64 N) := HD.out.cell 3 HU.out.2.2
    have dl := lt_at HD.out.deed
    have hDd : BD w H G p x s s W db u W4.drew := HD.out.step ((Keeps.refl _ _).drew)
    clear hc1 HC
    by_cases z2 : z = 2
    · subst z2
      have hb := gS_inj way s c
      obtain ⟨E, hE⟩ : ∃ E, gE way (fun n => injE s n c) = E := ⟨_, rfl⟩
      obtain ⟨s', hs'⟩ : ∃ s', gS way s (fun n => injS s n c) = s' := ⟨_, rfl⟩
      have HL : ∀ W', BD w H G p x s s W db u W' → Calls Tryd.prog 30 #[.pointer (some ⟨p, 0, none⟩), .int .i64 way, .string tv] W' fun ev W2 => ev = .returned (.int .i64 E) ∧ BD w H G p x s' s W db u W2 := fun W' h => by
        rw [← HCc.out, ← hE]; exact (bb_inject h.bb way c hc2).mono fun ev W2 g => ⟨g.1, h.op (hs' ▸ g.2.1) g.2.2⟩
      have HR : ∀ W', BD w H G p x s' s W db u W' → Calls Tryd.prog 43 #[.pointer (some ⟨x, 0, none⟩), .int .i64 way, .string tv] W' fun ev W2 => ev = .returned (.int .i64 E) ∧ BD w H G p x s' s' W db u W2 := fun W' h => by
        rw [← HCc.out, ← hE]; exact (bb_rinject h.bb way c hc2).mono fun ev W2 g => ⟨g.1, h.op (hs' ▸ g.2.1) g.2.2⟩
      rw [hs'] at hb
      have HB := Lib.hid hb
      have HS := Lib.hid hs
      clear hb hE hs' hs hc2
      go_wp2_with fail
      go_region_held3 (fun w' => w'.cell? ⟨db, 1, none⟩ = some (.int .i64 way))
        (first | exact hDq.cell 1 HU.out.2.1 | exact hDd.cell 1 HU.out.2.1)
        (first
          | (go_at_call 30; refine (HL _ (by assumption)).mono ?_; rintro e wq ⟨rfl, hDq⟩)
          | (go_at_call 43; refine (HR _ (by assumption)).mono ?_; rintro e wq ⟨rfl, hDq⟩))
      go_wp2_with fail
      go_ret
      exact HFin.out _ _ _ hDq (by rw [HB.out.1, HB.out.2]; have := HS.out; omega)
    by_cases z5 : z = 5
    · subst z5
      have HS := Lib.hid hs
      have CL := Lib.hid (show Calls Tryd.prog 37 #[.pointer (some ⟨p, 0, none⟩)] W4 fun ev W2 => ev = .returned (tickV (s.gone + 1)) ∧ BD w H G p x { s with gone := s.gone + 1 } s W db u W2 from (bb_tick HD.out.bb (by omega)).mono fun ev W2 g => ⟨g.1, HD.out.op g.2.1 g.2.2⟩)
      have CR := Lib.hid (show ∀ W', BD w H G p x { s with gone := s.gone + 1 } s W db u W' → Calls Tryd.prog 45 #[.pointer (some ⟨x, 0, none⟩)] W' fun ev W2 => ev = .returned (tickV (s.gone + 1)) ∧ BD w H G p x { s with gone := s.gone + 1 } { s with gone := s.gone + 1 } W db u W2 from
        fun W' h => (bb_rtick h.bb (by omega)).mono fun ev W2 g => ⟨g.1, h.op g.2.1 g.2.2⟩)
      unfold tickV at CL CR
      obtain ⟨ta, hta⟩ : ∃ ta, tickA (s.gone + 1) = ta := ⟨_, rfl⟩
      obtain ⟨td, htd⟩ : ∃ td, decide (20 ≤ s.gone + 1) = td := ⟨_, rfl⟩
      rw [hta, htd] at CL
      simp only [hta, htd] at CR
      clear hta htd hs hDd hc2
      go_wp2_with fail
      refine CL.out.mono ?_; rintro e w5 ⟨rfl, h5⟩
      have C5 := Lib.hid (CR.out _ h5)
      clear h5 CL CR
      go_wp2_with fail
      refine C5.out.mono ?_; rintro e w6 ⟨rfl, h6⟩
      have H6 := Lib.hid h6
      clear h6 C5
      cases ta <;> cases td
      all_goals
        go_wp2_with fail
        go_ret
        exact HFin.out _ _ _ H6.out (by have := HS.out; simp only; omega)
    by_cases z6 : z = 6
    · subst z6
      have HS := Lib.hid hs
      have CL := Lib.hid (show Calls Tryd.prog 38 #[.pointer (some ⟨p, 0, none⟩)] W4 fun ev W2 => ev = .returned (.tuple #[]) ∧ BD w H G p x { s with gone := 0 } s W db u W2 from (bb_heard HD.out.bb).mono fun ev W2 g => ⟨g.1, HD.out.op g.2.1 g.2.2⟩)
      have CR := Lib.hid (show ∀ W', BD w H G p x { s with gone := 0 } s W db u W' → Calls Tryd.prog 46 #[.pointer (some ⟨x, 0, none⟩)] W' fun ev W2 => ev = .returned (.tuple #[]) ∧ BD w H G p x { s with gone := 0 } { s with gone := 0 } W db u W2 from
        fun W' h => (bb_rheard h.bb).mono fun ev W2 g => ⟨g.1, h.op g.2.1 g.2.2⟩)
      clear hs hDd hc2
      go_wp2_with fail
      refine CL.out.mono ?_; rintro e w5 ⟨rfl, h5⟩
      have C5 := Lib.hid (CR.out _ h5)
      clear h5 CL CR
      go_wp2_with fail
      refine C5.out.mono ?_; rintro e w6 ⟨rfl, h6⟩
      have H6 := Lib.hid h6
      clear h6 C5
      go_wp2_with fail
      go_ret
      exact HFin.out _ _ _ H6.out (by have := HS.out; simp only; omega)
    by_cases z7 : z = 7
    · subst z7
      have HS := Lib.hid hs
      have CL := Lib.hid (show Calls Tryd.prog 31 #[.pointer (some ⟨p, 0, none⟩)] W4 fun ev W2 => ev = .returned (.tuple #[]) ∧ BD w H G p x (zeroS (s.ep + 1)) s W db u W2 from (bb_reset HD.out.bb (by omega)).mono fun ev W2 g => ⟨g.1, HD.out.op g.2.1 g.2.2⟩)
      have CR := Lib.hid (show ∀ W', BD w H G p x (zeroS (s.ep + 1)) s W db u W' → Calls Tryd.prog 42 #[.pointer (some ⟨x, 0, none⟩)] W' fun ev W2 => ev = .returned (.tuple #[]) ∧ BD w H G p x (zeroS (s.ep + 1)) (zeroS (s.ep + 1)) W db u W2 from
        fun W' h => (bb_rreset h.bb (by omega)).mono fun ev W2 g => ⟨g.1, h.op g.2.1 g.2.2⟩)
      clear hs hDd hc2
      go_wp2_with fail
      refine CL.out.mono ?_; rintro e w5 ⟨rfl, h5⟩
      have C5 := Lib.hid (CR.out _ h5)
      clear h5 CL CR
      go_wp2_with fail
      refine C5.out.mono ?_; rintro e w6 ⟨rfl, h6⟩
      have H6 := Lib.hid h6
      clear h6 C5
      go_wp2_with fail
      go_ret
      exact HFin.out _ _ _ H6.out (by have := HS.out; unfold zeroS; simp only; omega)
    by_cases z3 : z = 3 ∨ z = 4
    · have HS := Lib.hid hs
      have hct := gT_count way N s HD.out.bb.len
      have hfa := gTS_facts way N s
      have CL : Calls Tryd.prog 28 #[.pointer (some ⟨p, 0, none⟩), .int .i64 way, .int .i64 N] W4 fun ev W2 => ∃ ov, ev = .returned (.tuple #[ov, .int .i64 (gT s way N).2]) ∧ RowAt W2 9 ov ((gT s way N).1.map sV) ∧ BD w H (HV G ov) p x (gTS s way N) s W db u W2 := by
        refine (bb_take HG.out HD.out.bb way N (by omega)).mono ?_
        rintro ev W2 ⟨ov, a1, a2, a3, a4⟩
        exact ⟨ov, a1, a2, HD.out.op' (fun b hb => .inl hb) a3 a4⟩
      have CR : ∀ G' W', BD w H G' p x (gTS s way N) s W db u W' → Calls Tryd.prog 44 #[.pointer (some ⟨x, 0, none⟩), .int .i64 way, .int .i64 N] W' fun ev W2 => ∃ ov, ev = .returned (.tuple #[ov, .int .i64 (gT s way N).2]) ∧ RowAt W2 9 ov ((gT s way N).1.map sV) ∧ BD w H G' p x (gTS s way N) (gTS s way N) W db u W2 ∧ HK w G' W' W2 := fun G' W' h => by
        refine (bb_rtake h.bb way N (by omega)).mono ?_
        rintro ev W2 ⟨ov, a1, a2, a3, a4⟩
        exact ⟨ov, a1, a2, h.op a3 a4, a4⟩
      obtain ⟨T, er, hT⟩ : ∃ T er, gT s way N = (T, er) := ⟨_, _, rfl⟩
      obtain ⟨s', hs'⟩ : ∃ s', gTS s way N = s' := ⟨_, rfl⟩
      rw [hT] at hct CL
      rw [hs'] at CL hfa
      simp only [hT, hs'] at CR
      simp only at hct CL
      replace CL := Lib.hid CL
      replace CR := Lib.hid CR
      have HFA := Lib.hid hfa
      obtain ⟨n, hn⟩ : ∃ n, T.length = n := ⟨_, rfl⟩
      rw [hn] at hct
      have HN := Lib.hid hn
      clear hfa hT hs' hs hDd hc2 hn z2 z5 z6 z7
      rcases z3 with rfl | rfl
      all_goals
        go_wp2_with fail
        refine CL.out.mono ?_; rintro e w5 ⟨ov, rfl, a1, h5⟩
        have CR5 := Lib.hid (CR.out _ _ h5)
        obtain ⟨oa, oc, rfl⟩ := a1.val
        have g1 : w5.cell? ⟨db, 1, none⟩ = some (.int .i64 way) := h5.cell 1 HU.out.2.1
        have g3 : w5.cell? ⟨db, 3, none⟩ = some (.int .i64 N) := h5.cell 3 HU.out.2.2
        have gl := lt_at h5.deed
        rw [List.length_map, HN.out] at a1 CR5 ⊢
        have HA := Lib.hid a1
        clear a1 h5 CL CR
        go_wp2_with fail
        refine CR5.out.mono ?_; rintro e w6 ⟨ow, rfl, a2, h6, k6⟩
        obtain ⟨pa, pc, rfl⟩ := a2.val
        rw [List.length_map, HN.out] at a2 ⊢
        have HA6 := Lib.hid (k6.row HA.out fun b hb => .inr hb)
        have HB6 := Lib.hid a2
        have H6 := Lib.hid h6
        clear a2 h6 k6 CR5 g1 g3 gl HA
        go_wp2_with fail
        go_loopw [12] (fun iv wr => ∃ k : Nat, iv = .int .i64 k ∧ k ≤ n ∧ Keeps (fun _ => False) w6 wr) (fun iv _ => n - (intOf iv).toNat)
        case atStart => exact ⟨0, rfl, by omega, Keeps.refl _ _⟩
        case round =>
          obtain ⟨k, rfl, hk, hkw⟩ := hrel
          by_cases hlt : k < n
          · obtain ⟨b1, o1, q1, f1, _, _, hc1⟩ := (HA6.out.keeps hkw fun _ _ => id).cells (by rw [List.length_map, HN.out]; omega)
            obtain ⟨b2, o2, q2, f2, _, _, hc2⟩ := (HB6.out.keeps hkw fun _ _ => id).cells (by rw [List.length_map, HN.out]; omega)
            simp only [Value.slice.injEq] at f1 f2
            obtain ⟨rfl, -, rfl⟩ := f1
            obtain ⟨rfl, -, rfl⟩ := f2
            have g1 := hc1 k (by rw [List.length_map, HN.out]; exact hlt)
            have g2 := hc2 k (by rw [List.length_map, HN.out]; exact hlt)
            rw [List.getElem_map] at g1 g2
            obtain ⟨y, hy⟩ : ∃ y, T[k]'(by rw [HN.out]; exact hlt) = y := ⟨_, rfl⟩
            rw [hy] at g1 g2
            unfold sV at g1 g2
            have hlt' : (k : Int) < n := by omega
            have HK := Lib.hid hkw
            clear hy hc1 hc2 hkw
            go_wp2_with fail
            go_quiet (fail)
            go_wp2_with fail
            go_roundw
            case rel => exact ⟨k + 1, by go_num, by omega, HK.out.drewN _⟩
            case measure => simp [intOf]; omega
          · have hlt' : ¬ (k : Int) < n := by omega
            have H7 := Lib.hid (H6.out.step hkw)
            clear hkw
            go_wp2_with fail
            go_ret
            exact HFin.out _ _ _ H7.out (by have := HS.out; have := HFA.out; omega)
    have b2 : (z == 2) = false := by simpa using z2
    have b3 : (z == 3) = false := by simpa using (show z ≠ 3 by omega)
    have b4 : (z == 4) = false := by simpa using (show z ≠ 4 by omega)
    have b5 : (z == 5) = false := by simpa using z5
    have b6 : (z == 6) = false := by simpa using z6
    have b7 : (z == 7) = false := by simpa using z7
    clear z2 z3 z5 z6 z7
    have hb := gS_send way s c
    obtain ⟨E, hE⟩ : ∃ E, gE way (fun n => sendE s n c) = E := ⟨_, rfl⟩
    obtain ⟨s', hs'⟩ : ∃ s', gS way s (fun n => sendS s n c) = s' := ⟨_, rfl⟩
    have HL : ∀ W', BD w H G p x s s W db u W' → Calls Tryd.prog 26 #[.pointer (some ⟨p, 0, none⟩), .int .i64 way, .string tv] W' fun ev W2 => ev = .returned (.int .i64 E) ∧ BD w H G p x s' s W db u W2 := fun W' h => by
      rw [← HCc.out, ← hE]; exact (bb_send h.bb way c hc2).mono fun ev W2 g => ⟨g.1, h.op (hs' ▸ g.2.1) g.2.2⟩
    have HR : ∀ W', BD w H G p x s' s W db u W' → Calls Tryd.prog 47 #[.pointer (some ⟨x, 0, none⟩), .int .i64 way, .string tv] W' fun ev W2 => ev = .returned (.int .i64 E) ∧ BD w H G p x s' s' W db u W2 := fun W' h => by
      rw [← HCc.out, ← hE]; exact (bb_rsend h.bb way c hc2).mono fun ev W2 g => ⟨g.1, h.op (hs' ▸ g.2.1) g.2.2⟩
    rw [hs'] at hb
    have HB := Lib.hid hb
    have HS := Lib.hid hs
    clear hb hE hs' hs hc2
    go_wp2_with fail
    go_region_held3 (fun w' => w'.cell? ⟨db, 1, none⟩ = some (.int .i64 way))
      (first | exact hDq.cell 1 HU.out.2.1 | exact hDd.cell 1 HU.out.2.1)
      (first
        | (go_at_call 26; refine (HL _ (by assumption)).mono ?_; rintro e wq ⟨rfl, hDq⟩)
        | (go_at_call 47; refine (HR _ (by assumption)).mono ?_; rintro e wq ⟨rfl, hDq⟩))
    go_wp2_with fail
    go_ret
    exact HFin.out _ _ _ hDq (by rw [HB.out.1, HB.out.2]; have := HS.out; omega)
end Go.Proofs.YtfijpnhnlpgkgaaDoor
