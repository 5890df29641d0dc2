/-
  FrameCuts walked: it returns true at every list of texts and every list of cuts.
  Conditions: the variables errShort and errors.errorType hold what the text lays; the cells of both lists may be read.
-/
import Derived.Test.YtfijpnhnlpgkgaaDoorArgs
import Derived.Deep.DeepCutAuto
import Derived.Deep.CutBlock
namespace Go.Proofs.YtfijpnhnlpgkgaaDoor
open Go.RowKit
theorem cell_keeps {w w' : World} {F : Nat → Prop} {b o : Nat} {v : Value} (h : w.cell? ⟨b, o, none⟩ = some v) (k : Keeps F w w') (hF : ¬ F b) : w'.cell? ⟨b, o, none⟩ = some v := by
  rw [← h]
  unfold World.cell?
  rw [k.block b (World.block_lt_of_cell? w _ h) hF]
def msg (S : Nat → Bs) (i : Nat) : Bs := 109 :: (S i).take 49
def msgs (S : Nat → Bs) (k : Nat) : List Bs := (List.range k).map (msg S)
theorem msgs_succ (S : Nat → Bs) (k : Nat) : msgs S (k + 1) = msgs S k ++ [msg S k] := by simp [msgs, List.range_succ]
theorem msg_len (S : Nat → Bs) (k : Nat) : 1 ≤ (msg S k).length ∧ (msg S k).length ≤ 50 := by unfold msg; simp; omega
theorem msgs_len (S : Nat → Bs) (k : Nat) : ∀ m ∈ msgs S k, 1 ≤ m.length ∧ m.length ≤ 50 := by
  intro m hm
  obtain ⟨i, _, rfl⟩ := List.mem_map.1 hm
  exact msg_len S i
theorem msgs_count (S : Nat → Bs) (k : Nat) : (msgs S k).length = k := by simp [msgs]
theorem flat_msgs (S : Nat → Bs) (k : Nat) (hk : k ≤ 12) : (flat (msgs S k)).length ≤ 648 := by
  have := flat_le (msgs S k) 50 fun m hm => (msgs_len S k m hm).2
  rw [msgs_count] at this
  omega
def C1At (w : World) (n : Nat) (S : Nat → Bs) (av wv iv : Value) (wr : World) : Prop :=
  ∃ k : Nat, iv = .int .i64 k ∧ k ≤ n ∧ av = .string (mk (flat (msgs S k))) ∧ RowAt wr 9 wv ((msgs S k).map sV) ∧ (∀ b, wv.ownBlock = some b → w.heap.size ≤ b) ∧ Keeps (fun _ => False) w wr
/-- while it is fed: ms is told, l is left in the reader, R still comes -/
def C2At (w w2 : World) (r : Nat) (S : Nat → Bs) (n : Nat) (wv av gv iv : Value) (wr : World) : Prop :=
  ∃ (i : Nat) (R l : Bs) (ms ms' : List Bs), iv = .int .i64 i ∧ i ≤ 41 ∧ (i = 41 → R = []) ∧ av = .string (mk R) ∧ l.length + R.length ≤ 648 ∧ parse l = ([], l, 0) ∧ parse (l ++ R) = (ms', [], 0) ∧ ms ++ ms' = msgs S n ∧
    RowAt wr 9 gv (ms.map sV) ∧ RL w (HV (fun b => wv.ownBlock = some b) gv) r l 0 wr ∧ RowAt wr 9 wv ((msgs S n).map sV) ∧ (∀ b, gv.ownBlock = some b → w2.heap.size ≤ b) ∧ w2.heap.size ≤ wr.heap.size
def strLen (v : Value) : Nat := match v with | .string s => s.size | _ => 0
set_option maxRecDepth 100000 in
set_option maxHeartbeats 4000000 in
theorem cuts_any (a c : Option Addr) (len cap clen ccap : Nat) (S : Nat → Bs) (z : Nat → Int) (w : World) (g : Glob w) (hS : StrArg w a len S) (hZ : U8Arg w c clen z) (hlen : len ≤ maxLen) :
    Calls Tryd.prog 5 #[.slice a len cap, .slice c clen ccap] w fun e w' => e = .returned (.bool true) ∧ Keeps (fun _ => False) w w' := by
  obtain ⟨i9, hi9, hy0, hy1, hy2⟩ := info_parts Tryd.info9
  have CE := Lib.hid (examples_any w g)
  have HG := Lib.hid g
  have HS := Lib.hid hS
  have HZ := Lib.hid hZ
  unfold maxLen at hlen
  obtain ⟨n, hn⟩ : ∃ n, min len 12 = n := ⟨_, rfl⟩
  have hn1 : n ≤ len := by omega
  have hn2 : n ≤ 12 := by omega
  have hn3 : len ≤ n ∨ 12 ≤ n := by omega
  clear g hS hZ hn
  go_enter Tryd.func5, Tryd.ntmps5
  go_wp2_with fail
  refine CE.out.mono ?_; rintro e w1 ⟨rfl, k1⟩
  have hat : C1At w n S (.string (mk [])) (.slice none 0 0) (.int .i64 0) w1 := ⟨0, rfl, by omega, rfl, RowAt.nil _ _, nofun, k1⟩
  have HA := Lib.hid hat
  clear hat k1 CE
  go_upto_block 0 with fail
  go_cut [6, 7] (fun av wv wx => av = .string (mk (flat (msgs S n))) ∧ RowAt wx 9 wv ((msgs S n).map sV) ∧ (∀ b, wv.ownBlock = some b → w.heap.size ≤ b) ∧ Keeps (fun _ => False) w wx)
  case first =>
   go_wp2_with fail
   go_loopw [6, 7, 8] (fun av wv iv wr => C1At w n S av wv iv wr) (fun _ _ iv _ => n - (intOf iv).toNat)
   case atStart => exact HA.out
   case round =>
     clear HA
     obtain ⟨k, rfl, hk, rfl, hrow, hown, hkw⟩ := hrel
     obtain ⟨wa, wc, rfl⟩ := hrow.val
     rw [List.length_map, msgs_count] at hrow hown ⊢
     by_cases hlt : k < n
     · obtain ⟨b, off, rfl, hcell, hsl, hbl⟩ := HS.out k (by omega)
       have hcell := cell_keeps hcell hkw id
       have h1 : (k : Int) < len := by omega
       have h2 : (k : Int) < 12 := by omega
       have hbw : b < wr.heap.size := Nat.lt_of_lt_of_le hbl hkw.size
       obtain ⟨m, hm⟩ : ∃ m, min (S k).length 49 = m := ⟨_, rfl⟩
       have hss : (mk (S k)).size = (S k).length := mk_size _
       have hx : ⟨#[109]⟩ ++ (mk (S k)).extract 0 m = mk (msg S k) := by
         rw [mk_extract]
         have : (⟨#[109]⟩ : ByteArray) = mk [109] := rfl
         rw [this, mk_append]
         congr 1
         unfold msg
         rw [Nat.sub_zero, List.drop_zero, ← hm]
         simp only [List.cons_append, List.nil_append, List.cons.injEq, true_and]
         rw [Nat.min_comm, ← List.take_eq_take_min]
       unfold maxLen at hsl
       obtain ⟨s, hs⟩ : ∃ s, mk (S k) = s := ⟨_, rfl⟩
       rw [hs] at hcell hss hx
       have hmn : (if (49 : Int) < (s.size : Int) then (49 : Int) else s.size) = (m : Int) := by split <;> omega
       have hms : m ≤ s.size := by omega
       have hssz : s.size ≤ 9223372036854775807 := by omega
       have HX := Lib.hid hx
       have HR := Lib.hid hrow
       have HO := Lib.hid hown
       have HK := Lib.hid hkw
       clear hs hss hm hx hrow hown hkw hsl
       go_wp2_with fail
       go_quiet (fail)
       rw [HX.out]
       have CP := Lib.hid (fun W => pack_ok (msg S k) W (msg_len S k).1 (by have := (msg_len S k).2; omega))
       have hA : (mk (flat (msgs S k))).size ≤ 648 := by rw [mk_size]; exact flat_msgs S k (by omega)
       have hP : (mk (frm (msg S k))).size ≤ 54 := by rw [mk_size, frm_length]; have := (msg_len S k).2; omega
       have hAP : mk (flat (msgs S k)) ++ mk (frm (msg S k)) = mk (flat (msgs S (k + 1))) := by rw [mk_append, msgs_succ, flat_snoc]
       obtain ⟨A, hA'⟩ : ∃ A, mk (flat (msgs S k)) = A := ⟨_, rfl⟩
       obtain ⟨V, hV⟩ : ∃ V, mk (msg S k) = V := ⟨_, rfl⟩
       obtain ⟨P, hP'⟩ : ∃ P, mk (frm (msg S k)) = P := ⟨_, rfl⟩
       rw [hP'] at hP hAP CP
       rw [hA'] at hA hAP ⊢
       rw [hV] at CP ⊢
       have HAP := Lib.hid hAP
       have HV := Lib.hid hV
       clear hAP hA' hP' hV HX hcell hmn
       go_wp2_with fail
       refine (CP.out _).mono ?_; rintro e w3 ⟨rfl, k3⟩
       have K3 := Lib.hid (((Keeps.refl (fun _ => False) _).drewN _).trans k3)
       clear k3 CP
       go_wp2_with (at_builtin; refine wpList_app_row rfl _ _ 32 32 rfl 9 i9 (.string ByteArray.empty) 16 Tryd.underlying32 hi9 hy0 hy1 hy2 rfl _ ((msgs S k).map sV) rfl (HR.out.keeps (K3.out.alloc _) fun _ _ => id) _ 1 [.string V] rfl ?cB (by rw [List.length_map, msgs_count]; simp [maxLen]; omega) (by rw [List.length_map, msgs_count]; omega) ?_)
       case cB => exact RowAt.src (e := 9) (xs := [.string V]) Tryd.underlying32 (.inr ⟨_, 0, 1, #[.string V], rfl, heap_alloc_new _ _, by simp, by simp [maxLen], by simp, by simp⟩) (fun u hu => by simp only [List.mem_singleton] at hu; subst hu; rfl)
       intro nv w5 r5 k5 n5
       have hat : C1At w n S (.string (A ++ P)) nv (.int .i64 (k + 1 : Nat)) w5 := by
         refine ⟨k + 1, rfl, by omega, by rw [HAP.out], ?_, fun b hb => ?_, (HK.out.trans (K3.out.alloc _)).trans' k5 fun i hi e => by have := HO.out i e; omega⟩
         · rw [msgs_succ, List.map_append]
           have : [Value.string V] = [msg S k].map sV := by rw [← HV.out]; rfl
           rw [← this]; exact r5
         · rcases n5 b hb with h | h
           · exact HO.out b h
           · have h1 := HK.out.size; have h2 := K3.out.size; first | omega | (simp at h; omega)
       have HAt := Lib.hid hat
       obtain ⟨na, nc, rfl⟩ := r5.val
       clear hat r5 k5 n5
       go_wp2
       go_roundw
       case rel => exact HAt.out
       case measure => simp [intOf]; omega
     · obtain rfl : k = n := by omega
       have HE := Lib.hid (⟨hrow, hown, hkw⟩ : RowAt wr 9 (.slice wa k wc) ((msgs S k).map sV) ∧ (∀ b, (Value.slice wa k wc).ownBlock = some b → w.heap.size ≤ b) ∧ Keeps (fun _ => False) w wr)
       clear hrow hown hkw
       have hh : (¬ (k : Int) < len) ∨ ((k : Int) < len ∧ ¬ (k : Int) < 12) := by omega
       rcases hh with hlt' | ⟨hlt', h12⟩
       all_goals
         go_wp2_with fail
         go_meet
         case rel => exact ⟨rfl, HE.out⟩
  case rest =>
    obtain ⟨rfl, hrow, hown, hkw⟩ := hcut
    obtain ⟨wa, wcp, rfl⟩ := hrow.val
    rw [List.length_map, msgs_count] at hrow hown ⊢
    have CN := Lib.hid (rl_new (w := w) (W := wc) (H := fun b => (Value.slice wa n wcp).ownBlock = some b) hkw fun b hb => hrow.lt hb)
    have hA : (mk (flat (msgs S n))).size ≤ 648 := by rw [mk_size]; exact flat_msgs S n (by omega)
    have HR := Lib.hid hrow
    have HO := Lib.hid hown
    clear hrow hown hkw
    go_wp2_with fail
    refine CN.out.mono ?_; rintro e w2 ⟨rfl, hrl, hk2⟩
    have HR2 := Lib.hid (HR.out.keeps hk2 fun _ _ => id)
    obtain ⟨r, hr⟩ : ∃ r, wc.heap.size = r := ⟨_, rfl⟩
    rw [hr] at hrl ⊢
    clear hr CN HR hk2
    have HL := Lib.hid hrl
    clear hrl
    go_wp2_with fail
    have hat : C2At w w2 r S n (.slice wa n wcp) (.string (mk (flat (msgs S n)))) (.slice none 0 0) (.int .i64 0) w2 := by
      refine ⟨0, flat (msgs S n), [], [], msgs S n, rfl, by omega, fun h => by omega, rfl, ?_, parse_short (by decide), ?_, rfl, RowAt.nil _ _, HL.out.write (Keeps.refl (fun _ => False) _) (fun _ _ => False.elim) (fun b hb => ?_), HR2.out, nofun, Nat.le_refl _⟩
      · have := flat_msgs S n hn2; simp; omega
      · have := parse_flat (msgs S n) [] fun m hm => ⟨(msgs_len S n m hm).1, by have := (msgs_len S n m hm).2; omega⟩
        rw [List.append_nil, parse_short (l := []) (by decide)] at this
        simpa using this
      · rcases hb with hb | hb
        · exact .inl hb
        · cases hb
    have HA2 := Lib.hid hat
    have HWL := Lib.hid (fun b (hb : (Value.slice wa n wcp).ownBlock = some b) => HR2.out.lt hb)
    have HW2 := Lib.hid HL.out.keeps.size
    clear hat HL HR2 hA
    go_loopw [6, 13, 14] (fun av gv iv wr => C2At w w2 r S n (.slice wa n wcp) av gv iv wr) (fun av _ iv _ => (41 - (intOf iv).toNat) + strLen av)
    case atStart => exact HA2.out
    case round =>
      clear HA2
      obtain ⟨i, R, l, ms, ms', rfl, hi, hi41, rfl, hlR, hpl, hpR, hms, hgot, hrl, hwant, hgo, hsz⟩ := hrel
      obtain ⟨ga, gc, rfl⟩ := hgot.val
      rw [List.length_map] at hgot hgo hrl ⊢
      have hmc : ms.length + ms'.length = n := by rw [← List.length_append, hms, msgs_count]
      by_cases hR : R = []
      · subst hR
        rw [List.append_nil, hpl] at hpR
        simp only [Prod.mk.injEq, and_true] at hpR
        obtain ⟨rfl, rfl⟩ := hpR
        rw [List.append_nil] at hms
        subst hms
        rw [msgs_count] at hgot hgo hrl hmc ⊢
        have e1 : (mk []).toList = [] := by rw [ByteArray.toList_eq]; rfl
        have e2 : (mk []).toList.isEmpty = true := by rw [e1]; rfl
        have HH := Lib.hid (⟨hgot, hrl, hwant⟩ : RowAt wr 9 (.slice ga n gc) ((msgs S n).map sV) ∧ RL w (HV (fun b => (Value.slice wa n wcp).ownBlock = some b) (.slice ga n gc)) r [] 0 wr ∧ RowAt wr 9 (.slice wa n wcp) ((msgs S n).map sV))
        clear hgot hrl hwant hgo hsz hmc hpl hi hi41 hlR
        obtain ⟨wo, hwo⟩ : ∃ wo : World, wo = wr := ⟨_, rfl⟩
        rw [← hwo] at HH ⊢
        clear hwo
        go_wp2_with fail
        go_loopw [18] (fun iv wz => ∃ k : Nat, iv = .int .i64 k ∧ k ≤ n ∧ Keeps (fun _ => False) wo wz) (fun iv _ => n - (intOf iv).toNat)
        case atStart => exact ⟨0, rfl, by omega, Keeps.refl _ _⟩
        case round =>
          obtain ⟨k, rfl, hk, hkz⟩ := hrel
          by_cases hlt : k < n
          · obtain ⟨b1, o1, q1, f1, _, _, hc1⟩ := (HH.out.1.keeps hkz fun _ _ => id).cells (by rw [List.length_map, msgs_count]; omega)
            obtain ⟨b2, o2, q2, f2, _, _, hc2⟩ := (HH.out.2.2.keeps hkz fun _ _ => id).cells (by rw [List.length_map, msgs_count]; omega)
            simp only [Value.slice.injEq] at f1 f2
            obtain ⟨rfl, -, rfl⟩ := f1
            obtain ⟨rfl, -, rfl⟩ := f2
            have g1 := hc1 k (by rw [List.length_map, msgs_count]; exact hlt)
            have g2 := hc2 k (by rw [List.length_map, msgs_count]; exact hlt)
            rw [List.getElem_map] at g1 g2
            obtain ⟨y, hy⟩ : ∃ y, (msgs S n)[k]'(by rw [msgs_count]; exact hlt) = y := ⟨_, rfl⟩
            rw [hy] at g1 g2
            unfold sV at g1 g2
            have hlt' : (k : Int) < n := by omega
            have HK := Lib.hid hkz
            clear hy hc1 hc2 hkz
            go_wp2_with fail
            go_quiet (fail)
            go_wp2_with fail
            go_roundw
            case rel => exact ⟨k + 1, by go_num, by omega, HK.out.drewN _⟩
            case measure => simp [intOf]; omega
          · have hlt' : ¬ (k : Int) < n := by omega
            have HR3 := Lib.hid (HH.out.2.1.step hkz)
            have CB := Lib.hid (rl_bad HR3.out)
            have CL := Lib.hid (rl_left HR3.out)
            clear hkz
            go_wp2_with (first | (go_at_call 21; refine CB.out.mono ?_; rintro e w6 ⟨rfl, rfl⟩) | (go_at_call 20; refine CL.out.mono ?_; rintro e w6 ⟨rfl, rfl⟩))
            go_ret
            exact ⟨rfl, HR3.out.keeps⟩
      · have hi40 : i ≤ 40 := by
          rcases Nat.lt_or_ge 40 i with h | h
          · exact absurd (hi41 (by omega)) hR
          · exact h
        have hRl : 1 ≤ R.length := by cases R with | nil => exact absurd rfl hR | cons a b => simp
        have hn := mk_some hRl
        have hn' : (!(mk R).toList.isEmpty) = true := by rw [hn]; rfl
        have hss : (mk R).size = R.length := mk_size _
        have hEx := fun q => mk_extract R 0 q
        obtain ⟨s, hs⟩ : ∃ s, mk R = s := ⟨_, rfl⟩
        rw [hs] at hn hn' hss ⊢
        have hs1 : s.size ≤ 648 := by omega
        have HSS := Lib.hid hss
        have HSE := Lib.hid hs
        have HH := Lib.hid (⟨hpl, hpR, hms, hgot, hrl, hwant, hgo, hsz⟩ : parse l = ([], l, 0) ∧ parse (l ++ R) = (ms', [], 0) ∧ ms ++ ms' = msgs S n ∧ RowAt wr 9 (.slice ga ms.length gc) (ms.map sV) ∧ RL w (HV (fun b => (Value.slice wa n wcp).ownBlock = some b) (.slice ga ms.length gc)) r l 0 wr ∧ RowAt wr 9 (.slice wa n wcp) ((msgs S n).map sV) ∧ (∀ b, (Value.slice ga ms.length gc).ownBlock = some b → w2.heap.size ≤ b) ∧ w2.heap.size ≤ wr.heap.size)
        clear hpl hpR hms hgot hrl hwant hgo hsz hss hs hEx hR
        by_cases hc : i < clen ∧ i < 40
        · obtain ⟨hc1, hc2⟩ := hc
          obtain ⟨b, off, rfl, hcell, hz, hbl⟩ := HZ.out i hc1
          have hkw := HH.out.2.2.2.2.1.keeps
          have hcell := cell_keeps hcell hkw id
          have hbw : b < wr.heap.size := Nat.lt_of_lt_of_le hbl hkw.size
          have HK4 := Lib.hid (show w2.heap.size ≤ wr.heap.size from HH.out.2.2.2.2.2.2.2)
          have h1 : (i : Int) < clen := by omega
          have h2 : (i : Int) < 40 := by omega
          obtain ⟨z0, hz0⟩ : ∃ z0, z i = z0 := ⟨_, rfl⟩
          rw [hz0] at hcell hz
          obtain ⟨q, hq⟩ : ∃ q : Nat, min (z0 % 40) s.size = q := ⟨(min (z0 % 40) s.size).toNat, by omega⟩
          obtain ⟨z1, hz1⟩ : ∃ z1, z0 % 40 = z1 := ⟨_, rfl⟩
          have hz2 : z0.tmod 40 = z1 := by rw [Int.tmod_eq_emod_of_nonneg hz.1, hz1]
          have hz3 : 0 ≤ z1 ∧ z1 ≤ 39 := by omega
          have hmn : (if (s.size : Int) < z1 then (s.size : Int) else z1) = (q : Int) := by split <;> omega
          have hqs : q ≤ s.size := by omega
          have hq40 : q = s.size ∨ i < 40 := .inr hc2
          clear hz0 hkw hz1 hq
          have hsR : s.size = R.length := HSS.out
          have hx : s.extract 0 q = mk (R.take q) := by rw [← HSE.out, mk_extract]; rfl
          have hy : s.extract q s.size = mk (R.drop q) := by
            rw [← HSE.out, mk_extract, mk_size, List.take_of_length_le (by rw [List.length_drop]; omega)]
          have HX := Lib.hid hx
          have HY := Lib.hid hy
          obtain ⟨hpl, hpR, hms, hgot, hrl, hwant, hgo, hsz⟩ := HH.out
          rw [← List.take_append_drop q R] at hpR
          obtain ⟨h0, hleft, ms1, e1, e2⟩ := cut_step hpR
          have hlt := List.length_take (i := q) (l := R)
          have hld := List.length_drop (i := q) (l := R)
          have hfa := parse_facts _ (l ++ R.take q) (Nat.le_refl _)
          rw [List.length_append] at hfa
          have CF := rl_feed HG.out hrl (R.take q) (by omega) (by omega)
          unfold RlOut at CF
          rw [h0] at CF
          have CF := Lib.hid CF
          have HC := Lib.hid (⟨hleft, ms1, e1, e2⟩ : parse (parse (l ++ R.take q)).2.1 = ([], (parse (l ++ R.take q)).2.1, 0) ∧ ∃ ms1, ms' = (parse (l ++ R.take q)).1 ++ ms1 ∧ parse ((parse (l ++ R.take q)).2.1 ++ R.drop q) = (ms1, [], 0))
          have hlc : (parse (l ++ R.take q)).1.length ≤ 648 := by omega
          have hl2 : (parse (l ++ R.take q)).2.1.length ≤ l.length + (R.take q).length := by omega
          obtain ⟨T, hT⟩ : ∃ T, (parse (l ++ R.take q)).1 = T := ⟨_, rfl⟩
          obtain ⟨l2, hl2'⟩ : ∃ l2, (parse (l ++ R.take q)).2.1 = l2 := ⟨_, rfl⟩
          rw [hT] at CF HC hlc
          rw [hl2'] at CF HC hl2
          rw [hlt] at hl2
          rw [hT] at hfa
          have hms1 : ms.length + T.length ≤ 648 := by
            obtain ⟨_, ms2, f1, _⟩ := HC.out
            have := congrArg List.length hms
            rw [List.length_append, msgs_count, f1, List.length_append] at this
            omega
          clear hx hy hpl hpR hms hgot hrl hwant hgo hsz h0 hleft e1 e2 hlt hld hfa hT hl2' hsR
          go_wp2_with fail
          rw [HX.out]
          refine CF.out.mono ?_; rintro e w3 ⟨ov, rfl, ho, hof, hrl3, hk3⟩
          obtain ⟨oa, oc, rfl⟩ := ho.val
          rw [List.length_map] at ho hof hrl3 ⊢
          have hgot3 := hk3.row HH.out.2.2.2.1 fun b hb => .inr hb
          have hwant3 := hk3.row HH.out.2.2.2.2.2.1 fun b hb => .inl hb
          have HO3 := Lib.hid ho
          have HR3 := Lib.hid hrl3
          have HG3 := Lib.hid hgot3
          have HW3 := Lib.hid hwant3
          have hsrc := RowAt.src (P := Tryd.prog) Tryd.underlying32 ho sV_one
          rw [List.length_map] at hsrc
          have HSrc := Lib.hid hsrc
          have HS3 := Lib.hid (Nat.le_trans HH.out.2.2.2.2.2.2.2 hk3.size)
          clear ho hof hrl3 hk3 hgot3 hwant3 hsrc CF
          go_wp2_with (at_builtin; refine wpList_app_row rfl _ _ 32 32 rfl 9 i9 (.string ByteArray.empty) 16 Tryd.underlying32 hi9 hy0 hy1 hy2 rfl _ (ms.map sV) rfl HG3.out _ T.length (T.map sV) rfl HSrc.out (by rw [List.length_map]; simp [maxLen]; omega) (by rw [List.length_map]; omega) ?_)
          intro nv w4 r4 k4 n4
          have hat : C2At w w2 r S n (.slice wa n wcp) (.string (s.extract q s.size)) nv (.int .i64 (i + 1 : Nat)) w4 := by
            obtain ⟨hpl, hpR, hms, hgot, hrl, hwant, hgo, hsz⟩ := HH.out
            obtain ⟨hleft, ms1, e1, e2⟩ := HC.out
            have hw2 := HW2.out
            have hsR := HSS.out
            refine ⟨i + 1, R.drop q, l2, ms ++ T, ms1, rfl, by omega, fun h => ?_, by rw [HY.out], by rw [List.length_drop]; omega, hleft, e2, by rw [List.append_assoc, ← e1]; exact hms, by rw [List.map_append]; exact r4, HR3.out.write k4 (fun b _ hb => ⟨.inl (.inr hb), by have := hgo b hb; omega⟩) (fun b hb => ?_), HW3.out.keeps k4 fun b hb hb2 => ?_, fun b hb => ?_, ?_⟩
            · rw [List.drop_eq_nil_iff]; omega
            · rcases hb with hb | hb
              · exact .inl (.inl (.inl hb))
              · rcases n4 b hb with h | h
                · exact .inl (.inl (.inr h))
                · exact .inr ⟨h, r4.lt hb⟩
            · have := hgo b hb2; have := HWL.out b hb; omega
            · rcases n4 b hb with h | h
              · exact hgo b h
              · have := HS3.out; omega
            · exact Nat.le_trans HS3.out k4.size
          have HAt := Lib.hid hat
          obtain ⟨na, nc, rfl⟩ := r4.val
          clear hat r4 k4 n4
          go_wp2
          go_roundw
          case rel => exact HAt.out
          case measure => simp [intOf, strLen]; omega
        · have hqs : s.size ≤ s.size := Nat.le_refl _
          have hq40 : s.size = s.size ∨ i < 40 := .inl rfl
          have hcc : (¬ (i : Int) < clen) ∨ ((i : Int) < clen ∧ ¬ (i : Int) < 40) := by omega
          have hsR : s.size = R.length := HSS.out
          clear hc hq40
          rcases hcc with hcc | ⟨hcc, hcd⟩
          all_goals
            have hx : mk (R.take s.size) = s := by rw [List.take_of_length_le (by omega)]; exact HSE.out
            have hy : ByteArray.empty = mk (R.drop s.size) := by rw [List.drop_eq_nil_iff.2 (by omega)]; rfl
            have HX := Lib.hid hx
            have HY := Lib.hid hy
            obtain ⟨hpl, hpR, hms, hgot, hrl, hwant, hgo, hsz⟩ := HH.out
            rw [← List.take_append_drop s.size R] at hpR
            obtain ⟨h0, hleft, ms1, e1, e2⟩ := cut_step hpR
            have hlt := List.length_take (i := s.size) (l := R)
            have hld := List.length_drop (i := s.size) (l := R)
            have hfa := parse_facts _ (l ++ R.take s.size) (Nat.le_refl _)
            rw [List.length_append] at hfa
            have CF := rl_feed HG.out hrl (R.take s.size) (by omega) (by omega)
            unfold RlOut at CF
            rw [hx] at CF
            rw [h0] at CF
            have CF := Lib.hid CF
            have HC := Lib.hid (⟨hleft, ms1, e1, e2⟩ : parse (parse (l ++ R.take s.size)).2.1 = ([], (parse (l ++ R.take s.size)).2.1, 0) ∧ ∃ ms1, ms' = (parse (l ++ R.take s.size)).1 ++ ms1 ∧ parse ((parse (l ++ R.take s.size)).2.1 ++ R.drop s.size) = (ms1, [], 0))
            have hlc : (parse (l ++ R.take s.size)).1.length ≤ 648 := by omega
            have hl2 : (parse (l ++ R.take s.size)).2.1.length ≤ l.length + (R.take s.size).length := by omega
            obtain ⟨T, hT⟩ : ∃ T, (parse (l ++ R.take s.size)).1 = T := ⟨_, rfl⟩
            obtain ⟨l2, hl2'⟩ : ∃ l2, (parse (l ++ R.take s.size)).2.1 = l2 := ⟨_, rfl⟩
            rw [hT] at CF HC hlc
            rw [hl2'] at CF HC hl2
            rw [hlt] at hl2
            rw [hT] at hfa
            have hms1 : ms.length + T.length ≤ 648 := by
              obtain ⟨_, ms2, f1, _⟩ := HC.out
              have := congrArg List.length hms
              rw [List.length_append, msgs_count, f1, List.length_append] at this
              omega
            clear hx hy hpl hpR hms hgot hrl hwant hgo hsz h0 hleft e1 e2 hlt hld hfa hT hl2' hsR
            go_wp2_with fail
            refine CF.out.mono ?_; rintro e w3 ⟨ov, rfl, ho, hof, hrl3, hk3⟩
            obtain ⟨oa, oc, rfl⟩ := ho.val
            rw [List.length_map] at ho hof hrl3 ⊢
            have hgot3 := hk3.row HH.out.2.2.2.1 fun b hb => .inr hb
            have hwant3 := hk3.row HH.out.2.2.2.2.2.1 fun b hb => .inl hb
            have HO3 := Lib.hid ho
            have HR3 := Lib.hid hrl3
            have HG3 := Lib.hid hgot3
            have HW3 := Lib.hid hwant3
            have hsrc := RowAt.src (P := Tryd.prog) Tryd.underlying32 ho sV_one
            rw [List.length_map] at hsrc
            have HSrc := Lib.hid hsrc
            have HS3 := Lib.hid (Nat.le_trans HH.out.2.2.2.2.2.2.2 hk3.size)
            clear ho hof hrl3 hk3 hgot3 hwant3 hsrc CF
            go_wp2_with (at_builtin; refine wpList_app_row rfl _ _ 32 32 rfl 9 i9 (.string ByteArray.empty) 16 Tryd.underlying32 hi9 hy0 hy1 hy2 rfl _ (ms.map sV) rfl HG3.out _ T.length (T.map sV) rfl HSrc.out (by rw [List.length_map]; simp [maxLen]; omega) (by rw [List.length_map]; omega) ?_)
            intro nv w4 r4 k4 n4
            have hat : C2At w w2 r S n (.slice wa n wcp) (.string .empty) nv (.int .i64 (i + 1 : Nat)) w4 := by
              obtain ⟨hpl, hpR, hms, hgot, hrl, hwant, hgo, hsz⟩ := HH.out
              obtain ⟨hleft, ms1, e1, e2⟩ := HC.out
              have hw2 := HW2.out
              have hsR := HSS.out
              refine ⟨i + 1, R.drop s.size, l2, ms ++ T, ms1, rfl, by omega, fun h => ?_, by rw [HY.out], by rw [List.length_drop]; omega, hleft, e2, by rw [List.append_assoc, ← e1]; exact hms, by rw [List.map_append]; exact r4, HR3.out.write k4 (fun b _ hb => ⟨.inl (.inr hb), by have := hgo b hb; omega⟩) (fun b hb => ?_), HW3.out.keeps k4 fun b hb hb2 => ?_, fun b hb => ?_, ?_⟩
              · rw [List.drop_eq_nil_iff]; omega
              · rcases hb with hb | hb
                · exact .inl (.inl (.inl hb))
                · rcases n4 b hb with h | h
                  · exact .inl (.inl (.inr h))
                  · exact .inr ⟨h, r4.lt hb⟩
              · have := hgo b hb2; have := HWL.out b hb; omega
              · rcases n4 b hb with h | h
                · exact hgo b h
                · have := HS3.out; omega
              · exact Nat.le_trans HS3.out k4.size
            have HAt := Lib.hid hat
            obtain ⟨na, nc, rfl⟩ := r4.val
            clear hat r4 k4 n4
            go_wp2
            go_roundw
            case rel => exact HAt.out
            case measure => simp [intOf, strLen]; omega
end Go.Proofs.YtfijpnhnlpgkgaaDoor
