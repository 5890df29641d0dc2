/-
  LinkBytes walked: it returns true at every text, sent or laid, either way.
  Conditions: the variables errShort and errors.errorType hold what the text lays.
-/
import Derived.Test.YtfijpnhnlpgkgaaDoorLinkExam
import Derived.Test.YtfijpnhnlpgkgaaDoorLongWalk
import Derived.Deep.DeepCutAuto
namespace Go.Proofs.YtfijpnhnlpgkgaaDoor
open Go.RowKit
/-- a text behind one letter, cut to so many bytes -/
theorem cut_str (c : UInt8) (S : Bs) (lim m : Nat) (hm : min S.length lim = m) : (⟨#[c]⟩ : ByteArray) ++ (mk S).extract 0 m = mk (c :: S.take lim) := by
  rw [mk_extract]
  have : (⟨#[c]⟩ : ByteArray) = mk [c] := rfl
  rw [this, mk_append]
  congr 1
  rw [Nat.sub_zero, List.drop_zero, ← hm]
  simp only [List.cons_append, List.nil_append, List.cons.injEq, true_and]
  rw [Nat.min_comm, ← List.take_eq_take_min]
theorem take_some {s : Ls} {k n : Nat} {most : Int} {ms : List Bs} {r : Bs} (hn : takeN s k most = n) (hp : parse (s.rest k ++ (s.wait k).take n) = (ms, r, 0)) :
    takeP s k most = (ms, r, 0) ∧ takeS s k most = { s with wait := upd s.wait k ((s.wait k).drop n), rest := upd s.rest k r } := by
  have h1 : takeP s k most = (ms, r, 0) := by unfold takeP; rw [hn]; exact hp
  refine ⟨h1, ?_⟩
  unfold takeS
  rw [h1, hn, if_pos rfl]
/-- j bytes of a packed message came -/
def BSt (s : Ls) (k : Nat) (m : Bs) (j : Nat) : Prop := s.ep = 1 ∧ (s.wait k).length + j = 4 + m.length ∧ (j < 4 + m.length → s.wait k = (frm m).drop j ∧ s.rest k = (frm m).take j)
theorem bst_take {s : Ls} {k j : Nat} {m : Bs} (h : BSt s k m j) (h0 : 1 ≤ m.length) (h1 : m.length ≤ 65536) (hj : j < 4 + m.length) :
    BSt (takeS s k 1) k m (j + 1) ∧ (takeP s k 1).2.2 = 0 ∧ (takeP s k 1).1 = (if j + 1 = 4 + m.length then [m] else []) := by
  obtain ⟨h2, h3, h4⟩ := h
  obtain ⟨h5, h6⟩ := h4 hj
  have hn : takeN s k 1 = 1 := by unfold takeN; omega
  have e1 : s.rest k ++ (s.wait k).take 1 = (frm m).take (j + 1) := by rw [h5, h6, ← List.take_add]
  have hf := frm_length m
  by_cases he : j + 1 = 4 + m.length
  · have hp : parse (s.rest k ++ (s.wait k).take 1) = ([m], [], 0) := by
      rw [e1, List.take_of_length_le (by omega)]
      exact parse_one h0 h1
    obtain ⟨a1, a2⟩ := take_some hn hp
    rw [a1, a2, if_pos he]
    refine ⟨⟨h2, ?_, fun h => by omega⟩, rfl, rfl⟩
    simp only [upd_same, List.length_drop]; omega
  · have hp : parse (s.rest k ++ (s.wait k).take 1) = ([], (frm m).take (j + 1), 0) := by
      rw [e1]; exact parse_part m _ h0 h1 (by omega)
    obtain ⟨a1, a2⟩ := take_some hn hp
    rw [a1, a2, if_neg he]
    refine ⟨⟨h2, ?_, fun h => ?_⟩, rfl, rfl⟩
    · simp only [upd_same, List.length_drop]; omega
    · simp only [upd_same, h5, List.drop_drop]; exact ⟨trivial, trivial⟩
def BAt (w : World) (p k : Nat) (m : Bs) (iv : Value) (wr : World) : Prop := ∃ (j : Nat) (i : Int) (s : Ls), iv = .int .i64 i ∧ i = j + 1 ∧ j ≤ 4 + m.length ∧ BSt s k m j ∧ LL w (fun _ => False) p s wr
/-- at the start -/
def B0 (w : World) (p k : Nat) (m : Bs) (kI kJ : Int) (W : World) : Prop := ∃ s, LL w (fun _ => False) p s W ∧ BSt s k m 0 ∧
  (Calls Tryd.prog 27 #[.pointer (some ⟨p, 0, none⟩), .int .i64 kI] W fun e w' => e = .returned (.int .i64 ((m.length : Int) + 4)) ∧ W = w') ∧ (Calls Tryd.prog 27 #[.pointer (some ⟨p, 0, none⟩), .int .i64 kJ] W fun e w' => e = .returned (.int .i64 0) ∧ W = w')
theorem send_other {s : Ls} {k : Nat} (x : Bs) : ({ s with wait := upd s.wait k x } : Ls).wait k = x := upd_same _ _ _
set_option maxRecDepth 100000 in
set_option maxHeartbeats 4000000 in
theorem bytes8_any (S : Bs) (laid way : Bool) (w : World) (g : Glob w) (hS : S.length ≤ maxLen) : Calls Tryd.prog 11 #[.string (mk S), .bool laid, .bool way] w fun e w' => e = .returned (.bool true) ∧ Keeps (fun _ => False) w w' := by
  have CE := Lib.hid (lexam_any w g)
  have HG := Lib.hid g
  unfold maxLen at hS
  obtain ⟨q, hq⟩ : ∃ q, min S.length 59 = q := ⟨_, rfl⟩
  obtain ⟨m, hm⟩ : ∃ m, 115 :: S.take 59 = m := ⟨_, rfl⟩
  have hx := cut_str 115 S 59 q hq
  rw [hm] at hx
  have hml : 1 ≤ m.length ∧ m.length ≤ 60 := by rw [← hm]; simp; omega
  have hss : (mk S).size = S.length := mk_size _
  obtain ⟨s, hs⟩ : ∃ s, mk S = s := ⟨_, rfl⟩
  rw [hs] at hss hx ⊢
  have hmn : (if (59 : Int) < (s.size : Int) then (59 : Int) else s.size) = (q : Int) := by split <;> omega
  have hqs : q ≤ s.size := by omega
  have hssz : s.size ≤ 9223372036854775807 := by omega
  have hV : (mk m).size = m.length := mk_size _
  have hHd : strOfNums [0, 0, 0, (m.length : Int)] = mk (head4 m.length) := by
    unfold strOfNums mk head4
    congr 2
    simp only [List.map_cons, List.map_nil, List.cons.injEq, and_true]
    refine ⟨?_, ?_, ?_, ?_⟩ <;> (apply UInt8.toNat_inj.1; rw [UInt8.toNat_ofNat', UInt8.toNat_ofNat']; simp <;> omega)
  have hfr := frm_of (l := m) hHd
  obtain ⟨Hd, hHd'⟩ : ∃ Hd, strOfNums [0, 0, 0, (m.length : Int)] = Hd := ⟨_, rfl⟩
  rw [hHd'] at hfr
  have hHs : Hd.size ≤ 4 := by rw [← hHd', strOfNums_size]; simp
  have hcv := fun W => conv4 W 0 0 0 (m.length : Int)
  rw [hHd'] at hcv
  obtain ⟨V, hV'⟩ : ∃ V, mk m = V := ⟨_, rfl⟩
  rw [hV'] at hx hV hfr
  rw [← hV] at hcv
  have HFR := Lib.hid hfr
  have HX := Lib.hid hx
  have HMV := Lib.hid hV'
  have hVs : V.size ≤ 60 := by omega
  have hVs1 : 1 ≤ V.size := by omega
  have HVm := Lib.hid hV
  clear g hq hm hx hss hs hS hHd hfr hHd' hV' hV
  obtain ⟨k, kI, kJ, hk, hkI, hkJ, hway⟩ : ∃ (k : Nat) (kI kJ : Int), k < 2 ∧ (k : Int) = kI ∧ ((1 - k : Nat) : Int) = kJ ∧ ((way = true ∧ kI = 0 ∧ kJ = 1) ∨ (way = false ∧ kI = 1 ∧ kJ = 0)) := by
    cases way
    · exact ⟨1, 1, 0, by omega, rfl, rfl, .inr ⟨rfl, rfl, rfl⟩⟩
    · exact ⟨0, 0, 1, by omega, rfl, rfl, .inl ⟨rfl, rfl, rfl⟩⟩
  have HB : ∀ W p, LL w (fun _ => False) p { zeroS 1 with wait := upd (zeroS 1).wait k ((zeroS 1).wait k ++ frm m) } W → B0 w p k m kI kJ W := fun W p h => by
    have hl : ((((zeroS 1).wait k ++ frm m : Bs).length : Nat) : Int) = (m.length : Int) + 4 := by show ((([] ++ frm m : Bs).length : Nat) : Int) = _; rw [List.nil_append, frm_length]; omega
    refine ⟨_, h, ⟨rfl, ?_, fun _ => ⟨by simp only [upd_same]; rfl, rfl⟩⟩, ?_, ?_⟩
    · simp only [upd_same]; omega
    · have := ll_waiting h hk
      simp only [upd_same] at this
      rw [hl, hkI] at this; exact this
    · have := ll_waiting h (k := 1 - k) (by omega)
      simp only [upd_other _ _ (show 1 - k ≠ k by omega)] at this
      rw [hkJ] at this; exact this
  have HSend : ∀ W p, LL w (fun _ => False) p (zeroS 1) W → Calls Tryd.prog 26 #[.pointer (some ⟨p, 0, none⟩), .int .i64 kI, .string V] W fun ev W2 => ev = .returned (.int .i64 0) ∧ B0 w p k m kI kJ W2 := fun W p h => by
    have C := ll_send h hk m (by simp [maxLen]; omega)
    obtain ⟨f1, f2⟩ := send_fits (s := zeroS 1) (k := k) (m := m) hml.1 (by omega) (by simp [zeroS]; omega)
    rw [f1, f2, hkI, HMV.out] at C
    exact C.mono fun ev W2 h2 => ⟨h2.1, HB _ _ h2.2.1⟩
  have HInj : ∀ W p, LL w (fun _ => False) p (zeroS 1) W → Calls Tryd.prog 30 #[.pointer (some ⟨p, 0, none⟩), .int .i64 kI, .string (Hd ++ V)] W fun ev W2 => ev = .returned (.int .i64 0) ∧ B0 w p k m kI kJ W2 := fun W p h => by
    have C := ll_inject h hk (frm m) (by rw [frm_length]; simp [maxLen]; omega)
    obtain ⟨f1, f2⟩ := inj_fits (s := zeroS 1) (k := k) (c := frm m) (by simp [zeroS, frm_length]; omega)
    rw [f1, f2, hkI, ← HFR.out] at C
    exact C.mono fun ev W2 h2 => ⟨h2.1, HB _ _ h2.2.1⟩
  replace HSend := Lib.hid HSend
  replace HInj := Lib.hid HInj
  have HkI := Lib.hid hkI
  clear HB hkI hkJ HFR
  have HCV := Lib.hid hcv
  clear hcv
  rcases hway with ⟨rfl, rfl, rfl⟩ | ⟨rfl, rfl, rfl⟩ <;> cases laid
  all_goals
    go_enter Tryd.func11, Tryd.ntmps11
    go_wp2_with fail
    refine CE.out.mono ?_; rintro e w1 ⟨rfl, k1⟩
    have CN := Lib.hid (ll_new (H := fun _ => False) k1 fun _ => False.elim)
    clear k1 CE
    go_wp2_with fail
    refine CN.out.mono ?_; rintro e w2 ⟨p, rfl, h2, _⟩
    have H2 := Lib.hid h2
    have hcv := HCV.out w2
    clear h2 CN
    go_upto_region 11 with fail
    rw [HX.out]
    have CSend := Lib.hid (HSend.out _ _ H2.out)
    have CInj := Lib.hid fun o => HInj.out _ _ (H2.out.step ((Keeps.refl _ _).alloc o))
    clear HSend HInj HX H2 hmn
    go_wp2_with fail
    first
      | (go_at_call 26; refine CSend.out.mono ?_; rintro e w3 ⟨rfl, s, hl, hst, c1, c2⟩)
      | (go_at_call 30; refine (CInj.out _).mono ?_; rintro e w3 ⟨rfl, s, hl, hst, c1, c2⟩)
    rw [← HVm.out] at c1
    have C1 := Lib.hid c1
    have C2 := Lib.hid c2
    have HL := Lib.hid (⟨hst, hl⟩ : BSt s k m 0 ∧ LL w (fun _ => False) p s w3)
    clear hst hl c1 c2 hcv CSend CInj HCV
    go_wp2_with fail
    refine C1.out.mono ?_; rintro e w4 ⟨rfl, rfl⟩
    go_wp2_with fail
    refine C2.out.mono ?_; rintro e w4 ⟨rfl, rfl⟩
    go_wp2_with fail
    go_loopw [11] (fun iv wr => BAt w p k m iv wr) (fun iv _ => V.size + 5 - (intOf iv).toNat)
    case atStart => exact ⟨0, 1, s, rfl, rfl, by omega, HL.out⟩
    case round =>
      clear HL C1 C2
      obtain ⟨j, i, s, rfl, hi, hj, hst, hl⟩ := hrel
      have hvm := HVm.out
      have HI := Lib.hid hi
      by_cases hlt : i ≤ (V.size : Int) + 4
      · have CT := ll_take HG.out hl hk 1 (by decide) (by rw [hst.1]; omega)
        unfold TakeOut at CT
        obtain ⟨b1, b2, b3⟩ := bst_take hst hml.1 (by omega) (by omega)
        rw [b2, b3, HkI.out] at CT
        have HB1 := Lib.hid b1
        have hi1 : 1 ≤ i := by omega
        by_cases he : j + 1 = 4 + m.length
        · rw [if_pos he] at CT
          replace CT := Lib.hid CT
          obtain rfl : i = (V.size : Int) + 4 := by omega
          clear hl hst b1 b2 b3 hvm hi hj he
          go_wp2_with fail
          refine CT.out.mono ?_; rintro e w4 ⟨ov, rfl, ho, _, h4, _⟩
          obtain ⟨b0, o0, c0, rfl, _, _, hcc⟩ := ho.cells (by simp)
          have hc0 : w4.cell? ⟨b0, o0, none⟩ = some (.string V) := by rw [← HMV.out]; exact hcc 0 (by simp)
          have CW := ll_waiting h4 hk
          have hwl : (((takeS s k 1).wait k).length : Int) = 0 := by have := HB1.out.2.1; have := HVm.out; have := HI.out; omega
          rw [hwl, HkI.out] at CW
          replace CW := Lib.hid CW
          have HF := Lib.hid (show BAt w p k m (.int .i64 ((V.size : Int) + 4 + 1)) w4 from ⟨j + 1, _, _, rfl, by have := HVm.out; have := HI.out; omega, by have := HB1.out.2.1; omega, HB1.out, h4.sub fun b hb => hb.elim⟩)
          clear h4 ho hcc hwl CT
          simp only [List.map_cons, List.map_nil, List.length_singleton]
          go_wp2_with (go_at_call 27; refine CW.out.mono ?_; rintro e w5 ⟨rfl, rfl⟩)
          go_roundw
          case rel => exact HF.out
          case measure => simp [intOf]; omega
        · rw [if_neg he] at CT
          replace CT := Lib.hid CT
          have hne : (i == (V.size : Int) + 4) = false := by simpa using (show i ≠ (V.size : Int) + 4 by omega)
          clear hl hst b1 b2 b3 hvm hi hj he
          go_wp2_with fail
          refine CT.out.mono ?_; rintro e w4 ⟨ov, rfl, ho, _, h4, _⟩
          obtain ⟨oa, oc, rfl⟩ := ho.val
          have CW := ll_waiting h4 hk
          have hwl : (((takeS s k 1).wait k).length : Int) = (V.size : Int) + 4 - i := by have := HB1.out.2.1; have := HVm.out; have := HI.out; omega
          rw [hwl, HkI.out] at CW
          replace CW := Lib.hid CW
          have HF := Lib.hid (show BAt w p k m (.int .i64 (i + 1)) w4 from ⟨j + 1, _, _, rfl, by have := HVm.out; have := HI.out; omega, by have := HB1.out.2.1; omega, HB1.out, h4.sub fun b hb => hb.elim⟩)
          clear h4 ho hwl CT
          simp only [List.map_nil, List.length_nil]
          go_wp2_with (go_at_call 27; refine CW.out.mono ?_; rintro e w5 ⟨rfl, rfl⟩)
          go_roundw
          case rel => exact HF.out
          case measure => simp [intOf]; omega
      · have HE := Lib.hid hl.keeps
        clear hl hst hvm hi hj
        go_wp2_with fail
        go_ret
        exact ⟨rfl, HE.out⟩
end Go.Proofs.YtfijpnhnlpgkgaaDoor
