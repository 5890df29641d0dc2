/-
  FrameEnds walked: it returns true at every list of texts, every flag, byte and text behind.
  Conditions: the variables errShort and errors.errorType hold what the text lays; the cells of the list may be read; the text behind takes at most 2^47 - 4096 bytes.
-/
import Derived.Test.YtfijpnhnlpgkgaaDoorCutsWalk
import Derived.Deep.RegionHeld3
namespace Go.Proofs.YtfijpnhnlpgkgaaDoor
open Go.RowKit
theorem flat_msgs5 (S : Nat → Bs) (k : Nat) (hk : k ≤ 5) : (flat (msgs S k)).length ≤ 270 := by
  have := flat_le (msgs S k) 50 fun m hm => (msgs_len S k m hm).2
  rw [msgs_count] at this
  omega
theorem msg_of {S : Nat → Bs} {k m : Nat} (hm : min (S k).length 49 = m) : ⟨#[109]⟩ ++ (mk (S k)).extract 0 m = mk (msg S k) := by
  rw [mk_extract]
  have : (⟨#[109]⟩ : ByteArray) = mk [109] := rfl
  rw [this, mk_append]
  congr 1
  unfold msg
  rw [Nat.sub_zero, List.drop_zero, ← hm]
  simp only [List.cons_append, List.nil_append, List.cons.injEq, true_and]
  rw [Nat.min_comm, ← List.take_eq_take_min]
/-- a length that may not be -/
def badL (long : Bool) (by' : Int) : Bs := if long then [UInt8.ofNat by'.toNat, 1, 0, UInt8.ofNat (1 + by' / 2).toNat] else [0, 0, 0, 0]
def badE (long : Bool) : Int := if long then 3 else 2
theorem parse_bad (long : Bool) (by' : Int) (hb : 0 ≤ by' ∧ by' ≤ 255) (r : Bs) : parse (badL long by' ++ r) = ([], [], badE long) := by
  cases long with
  | false => exact parse_zero (by simp [badL]) rfl
  | true =>
    refine parse_long (by simp [badL]) ?_
    show 65536 < (((UInt8.ofNat by'.toNat).toNat * 256 + 1) * 256 + 0) * 256 + (UInt8.ofNat (1 + by' / 2).toNat).toNat
    have h1 : (UInt8.ofNat (1 + by' / 2).toNat).toNat = (1 + by' / 2).toNat := by rw [UInt8.toNat_ofNat']; omega
    rw [h1]
    omega
theorem strOfNums_bad (by' : Int) : strOfNums [by', 1, 0, 1 + by' / 2] = mk (badL true by') := rfl
def E1At (w : World) (n : Nat) (S : Nat → Bs) (av mv iv : Value) (wr : World) : Prop :=
  ∃ k : Nat, iv = .int .i64 k ∧ mv = .int .i64 k ∧ k ≤ n ∧ av = .string (mk (flat (msgs S k))) ∧ Keeps (fun _ => False) w wr
set_option maxRecDepth 100000 in
set_option maxHeartbeats 4000000 in
theorem ends_any (a : Option Addr) (len cap : Nat) (S : Nat → Bs) (long : Bool) (by' : Int) (more : Bs) (w : World) (g : Glob w) (hS : StrArg w a len S) (hlen : len ≤ maxLen) (hb : 0 ≤ by' ∧ by' ≤ 255) (hm : more.length ≤ 140737488351232) :
    Calls Tryd.prog 6 #[.slice a len cap, .bool long, .int .u8 by', .string (mk more)] w fun e w' => e = .returned (.bool true) ∧ Keeps (fun _ => False) w w' := by
  have CE := Lib.hid (examples_any w g)
  have HG := Lib.hid g
  have HS := Lib.hid hS
  have HM := Lib.hid hm
  unfold maxLen at hlen
  obtain ⟨n, hn⟩ : ∃ n, min len 5 = n := ⟨_, rfl⟩
  have hn1 : n ≤ len := by omega
  have hn2 : n ≤ 5 := by omega
  have hn3 : len ≤ n ∨ 5 ≤ n := by omega
  clear g hS hn hm
  go_enter Tryd.func6, Tryd.ntmps6
  go_wp2_with fail
  refine CE.out.mono ?_; rintro e w1 ⟨rfl, k1⟩
  have hat : E1At w n S (.string (mk [])) (.int .i64 0) (.int .i64 0) w1 := ⟨0, rfl, rfl, by omega, rfl, k1⟩
  have HA := Lib.hid hat
  clear hat k1 CE
  go_upto_block 0 with fail
  go_cut [10, 11] (fun av mv wx => av = .string (mk (flat (msgs S n))) ∧ mv = .int .i64 n ∧ Keeps (fun _ => False) w wx)
  case first =>
    go_wp2_with fail
    go_loopw [10, 11, 12] (fun av mv iv wr => E1At w n S av mv iv wr) (fun _ _ iv _ => n - (intOf iv).toNat)
    case atStart => exact HA.out
    case round =>
      clear HA
      obtain ⟨k, rfl, rfl, hk, rfl, hkw⟩ := hrel
      by_cases hlt : k < n
      · obtain ⟨b, off, rfl, hcell, hsl, hbl⟩ := HS.out k (by omega)
        have hcell := cell_keeps hcell hkw id
        have h1 : (k : Int) < len := by omega
        have h2 : (k : Int) < 5 := by omega
        have hbw : b < wr.heap.size := Nat.lt_of_lt_of_le hbl hkw.size
        obtain ⟨m, hm⟩ : ∃ m, min (S k).length 49 = m := ⟨_, rfl⟩
        have hss : (mk (S k)).size = (S k).length := mk_size _
        have hx : ⟨#[109]⟩ ++ (mk (S k)).extract 0 m = mk (msg S k) := msg_of hm
        unfold maxLen at hsl
        obtain ⟨s, hs⟩ : ∃ s, mk (S k) = s := ⟨_, rfl⟩
        rw [hs] at hcell hss hx
        have hmn : (if (49 : Int) < (s.size : Int) then (49 : Int) else s.size) = (m : Int) := by split <;> omega
        have hms : m ≤ s.size := by omega
        have hssz : s.size ≤ 9223372036854775807 := by omega
        have hes : (s.extract 0 m).size ≤ 49 := by rw [ByteArray.size_extract]; omega
        obtain ⟨E, hE⟩ : ∃ E, s.extract 0 m = E := ⟨_, rfl⟩
        rw [hE] at hes hx
        obtain ⟨V, hV⟩ : ∃ V, mk (msg S k) = V := ⟨_, rfl⟩
        have hadd : ∀ W : World, Sem.run Tryd.prog (Op.stringOp .add ⟨#[109]⟩ E) W = .ok (.string V) W := fun W => by
          rw [run_string_add_sum (w := W) _ _ (by have : (⟨#[109]⟩ : ByteArray).size = 1 := rfl; omega), hx, hV]
        have HK := Lib.hid hkw
        have CP := Lib.hid (fun W => hV ▸ pack_ok (msg S k) W (msg_len S k).1 (by have := (msg_len S k).2; omega))
        have hA : (mk (flat (msgs S k))).size ≤ 270 := by rw [mk_size]; exact flat_msgs5 S k (by omega)
        have hP : (mk (frm (msg S k))).size ≤ 54 := by rw [mk_size, frm_length]; have := (msg_len S k).2; omega
        have hAP : mk (flat (msgs S k)) ++ mk (frm (msg S k)) = mk (flat (msgs S (k + 1))) := by rw [mk_append, msgs_succ, flat_snoc]
        obtain ⟨A, hA'⟩ : ∃ A, mk (flat (msgs S k)) = A := ⟨_, rfl⟩
        obtain ⟨P, hP'⟩ : ∃ P, mk (frm (msg S k)) = P := ⟨_, rfl⟩
        rw [hP'] at hP hAP CP
        rw [hA'] at hA hAP ⊢
        have HAP := Lib.hid hAP
        clear hs hss hm hx hkw hsl hAP hA' hP' hV
        go_wp2_with fail
        go_region_held3 (fun w' => w'.cell? ⟨b, off + k, none⟩ = some (.string s)) (first | exact hcq | exact hcell)
          (first
            | (go_at_call 22; refine (CP.out _).mono ?_; rintro e w3 ⟨rfl, k3⟩; have hcq : w3.cell? ⟨b, off + k, none⟩ = some (.string s) := cell_keeps hcell (((Keeps.refl _ _).drew).trans k3) id))
        have K3 := Lib.hid (HK.out.drew.trans k3)
        clear k3 CP
        go_wp2_with fail
        go_roundw
        case rel => exact ⟨k + 1, by go_num, by go_num, by omega, by rw [HAP.out], K3.out⟩
        case measure => simp [intOf]; omega
      · obtain rfl : k = n := by omega
        have HE := Lib.hid hkw
        clear hkw
        have hh : (¬ (k : Int) < len) ∨ ((k : Int) < len ∧ ¬ (k : Int) < 5) := by omega
        rcases hh with hlt' | ⟨hlt', h5⟩
        all_goals
          go_wp2_with fail
          go_meet
          case rel => exact ⟨rfl, rfl, HE.out⟩
  case rest =>
    obtain ⟨rfl, rfl, hkw⟩ := hcut
    have HK := Lib.hid hkw
    have hbs := strOfNums_bad by'
    have hmore := HM.out
    have hA : (mk (flat (msgs S n))).size ≤ 270 := by rw [mk_size]; exact flat_msgs5 S n (by omega)
    have hMs : (mk more).size ≤ 140737488351232 := by rw [mk_size]; exact hmore
    have hBs : (mk (badL long by')).size ≤ 4 := by rw [mk_size]; cases long <;> simp [badL]
    have hp : parse ([] ++ (flat (msgs S n) ++ (badL long by' ++ more))) = (msgs S n, [], badE long) := by
      rw [List.nil_append, parse_flat (msgs S n) _ fun m hm => ⟨(msgs_len S n m hm).1, by have := (msgs_len S n m hm).2; omega⟩, parse_bad long by' hb]
      simp
    have happ : mk (flat (msgs S n)) ++ mk (badL long by') ++ mk more = mk (flat (msgs S n) ++ (badL long by' ++ more)) := by rw [mk_append, mk_append, List.append_assoc]
    have hlen2 : (flat (msgs S n) ++ (badL long by' ++ more)).length ≤ 140737488355328 := by
      rw [mk_size] at hA hBs
      rw [List.length_append, List.length_append]; omega
    have CP := Lib.hid (fun W => pack_ok [120] W (by decide) (by decide))
    have HPP := Lib.hid hp
    have HL2 := Lib.hid hlen2
    obtain ⟨A, hA'⟩ : ∃ A, mk (flat (msgs S n)) = A := ⟨_, rfl⟩
    obtain ⟨M, hM'⟩ : ∃ M, mk more = M := ⟨_, rfl⟩
    rw [hA'] at hA happ ⊢
    rw [hM'] at hMs happ ⊢
    have HApp := Lib.hid happ
    have HBs := Lib.hid hbs
    have hbsz := hBs
    clear hp hlen2 happ hkw hA' hM' hmore hBs
    have CN := Lib.hid fun W (hW : Keeps (fun _ => False) w W) => rl_new (w := w) (W := W) (H := fun _ => False) hW fun _ => False.elim
    cases long with
    | false =>
      go_wp2_with fail
      refine (CN.out _ HK.out).mono ?_; rintro e w2 ⟨rfl, hrl, hk2⟩
      have hcf := rl_feed HG.out hrl (flat (msgs S n) ++ (badL false by' ++ more)) (by rw [List.length_nil, Nat.zero_add]; exact HL2.out) (by rw [HPP.out]; simp only [msgs_count]; omega)
      unfold RlOut at hcf
      rw [HPP.out] at hcf
      have CF := Lib.hid hcf
      clear hcf hrl hk2 CN
      go_wp2_with fail
      rw [show A ++ ⟨#[0, 0, 0, 0]⟩ ++ M = mk (flat (msgs S n) ++ (badL false by' ++ more)) from HApp.out]
      refine CF.out.mono ?_; rintro e w3 ⟨ov, rfl, ho, hof, hrl3, hk3⟩
      obtain ⟨oa, oc, rfl⟩ := ho.val
      rw [List.length_map, msgs_count] at ho hof hrl3 ⊢
      have CB := Lib.hid fun W (hW : Keeps (fun _ => False) w3 W) s => rl_feed_bad (hrl3.step hW) (by decide) s
      have HR3 := Lib.hid hrl3
      clear hk3 hof ho hrl3 CF
      go_wp2_with fail
      refine (CP.out _).mono ?_; rintro e w4 ⟨rfl, k4⟩
      have K4 := Lib.hid k4
      clear k4 CP
      go_wp2_with fail
      refine (CB.out _ K4.out _).mono ?_; rintro e w5 ⟨rfl, k5⟩
      have HR5 := Lib.hid ((HR3.out.step K4.out).step k5)
      have C1 := Lib.hid (rl_bad HR5.out)
      have C2 := Lib.hid (rl_left HR5.out)
      clear k5 CB
      go_wp2_with (first | (go_at_call 21; refine C1.out.mono ?_; rintro e w6 ⟨rfl, rfl⟩) | (go_at_call 20; refine C2.out.mono ?_; rintro e w6 ⟨rfl, rfl⟩))
      go_ret
      exact ⟨rfl, HR5.out.keeps⟩
    | true =>
      have hconv := conv4 wc by' 1 0 (1 + by' / 2)
      rw [HBs.out] at hconv
      obtain ⟨B, hB⟩ : ∃ B, mk (badL true by') = B := ⟨_, rfl⟩
      rw [hB] at hconv hbsz HApp
      clear hB
      go_wp2_with fail
      refine (CN.out _ (HK.out.alloc _)).mono ?_; rintro e w2 ⟨rfl, hrl, hk2⟩
      have hrr : (wc.alloc (.cells #[.int .u8 by', .int .u8 1, .int .u8 0, .int .u8 (1 + by' / 2)] 5)).heap.size = wc.heap.size + 1 := by simp
      rw [hrr] at hrl
      clear hrr
      have hcf := rl_feed HG.out hrl (flat (msgs S n) ++ (badL true by' ++ more)) (by rw [List.length_nil, Nat.zero_add]; exact HL2.out) (by rw [HPP.out]; simp only [msgs_count]; omega)
      unfold RlOut at hcf
      rw [HPP.out] at hcf
      have CF := Lib.hid hcf
      clear hcf hrl hk2 CN
      go_wp2_with fail
      rw [HApp.out]
      refine CF.out.mono ?_; rintro e w3 ⟨ov, rfl, ho, hof, hrl3, hk3⟩
      obtain ⟨oa, oc, rfl⟩ := ho.val
      rw [List.length_map, msgs_count] at ho hof hrl3 ⊢
      have CB := Lib.hid fun W (hW : Keeps (fun _ => False) w3 W) s => rl_feed_bad (hrl3.step hW) (by decide) s
      have HR3 := Lib.hid hrl3
      clear hk3 hof ho hrl3 CF
      go_wp2_with fail
      refine (CP.out _).mono ?_; rintro e w4 ⟨rfl, k4⟩
      have K4 := Lib.hid k4
      clear k4 CP
      go_wp2_with fail
      refine (CB.out _ K4.out _).mono ?_; rintro e w5 ⟨rfl, k5⟩
      have HR5 := Lib.hid ((HR3.out.step K4.out).step k5)
      have C1 := Lib.hid (rl_bad HR5.out)
      have C2 := Lib.hid (rl_left HR5.out)
      clear k5 CB
      go_wp2_with (first | (go_at_call 21; refine C1.out.mono ?_; rintro e w6 ⟨rfl, rfl⟩) | (go_at_call 20; refine C2.out.mono ?_; rintro e w6 ⟨rfl, rfl⟩))
      go_ret
      exact ⟨rfl, HR5.out.keeps⟩
end Go.Proofs.YtfijpnhnlpgkgaaDoor
