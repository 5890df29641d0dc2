/-
  The document's timers in memory: a slice of an id and a time each, behind a pointer; its 'find' and 'Stop'.
  Conditions: at most 2000 timers.
-/
import Derived.Test.YtfecgibdhglhiaaRowN
import Derived.Test.YtfecgibdhglhiaaTimes
import Derived.BigQuiet
import Derived.Deep.QuietTactic
namespace Go.Proofs.Ytfecgibdhglhiaa
open Go.RowKit
def flatL : List IA → List Value
  | [] => []
  | x :: L => .string x.1 :: .int .u64 x.2 :: flatL L
theorem flatL_length : ∀ L : List IA, (flatL L).length = L.length * 2
  | [] => rfl
  | _ :: L => by simp only [flatL, List.length_cons, flatL_length L]; omega
theorem flatL_append : ∀ K L : List IA, flatL (K ++ L) = flatL K ++ flatL L
  | [], _ => rfl
  | _ :: K, L => by simp only [List.cons_append, flatL, flatL_append K L]
theorem flatL_id : ∀ (L : List IA) (i : Nat) (h : i < L.length) (h2 : 2 * i < (flatL L).length), (flatL L)[2 * i] = .string L[i].1
  | x :: L, 0, _, _ => rfl
  | x :: L, i + 1, h, h2 => by
    simp only [flatL, show 2 * (i + 1) = 2 * i + 1 + 1 by omega, List.getElem_cons_succ]
    exact flatL_id L i (by simpa using h) _
theorem flatL_at : ∀ (L : List IA) (i : Nat) (h : i < L.length) (h2 : 2 * i + 1 < (flatL L).length), (flatL L)[2 * i + 1] = .int .u64 L[i].2
  | x :: L, 0, _, _ => rfl
  | x :: L, i + 1, h, h2 => by
    simp only [flatL, show 2 * (i + 1) + 1 = (2 * i + 1) + 1 + 1 by omega, List.getElem_cons_succ]
    exact flatL_at L i (by simpa using h) _
theorem flatL_take : ∀ (L : List IA) (k : Nat), (flatL L).take (k * 2) = flatL (L.take k)
  | [], k => by simp [flatL]
  | x :: L, 0 => by simp [flatL]
  | x :: L, k + 1 => by simp only [flatL, show (k + 1) * 2 = k * 2 + 1 + 1 by omega, List.take_succ_cons, flatL_take L k]
theorem flatL_drop : ∀ (L : List IA) (k : Nat), (flatL L).drop (k * 2) = flatL (L.drop k)
  | [], k => by simp [flatL]
  | x :: L, 0 => by simp
  | x :: L, k + 1 => by simp only [flatL, show (k + 1) * 2 = k * 2 + 1 + 1 by omega, List.drop_succ_cons, flatL_drop L k]
theorem flatL_one : ∀ (L : List IA) (u : Value), u ∈ flatL L → u.oneCell' = true
  | x :: L, u, h => by
    simp only [flatL, List.mem_cons] at h
    rcases h with rfl | rfl | h
    · rfl
    · rfl
    · exact flatL_one L u h
/-- The object at r holds L. -/
structure RefAt (w : World) (r : Nat) (sv : Value) (L : List IA) : Prop where
  own : w.heap[r]? = some (.cells #[sv] 38 (0, 0))
  row : RowN w 70 2 sv L.length (flatL L)
  ne : sv.ownBlock ≠ some r
theorem RefAt.lt {w : World} {r : Nat} {sv : Value} {L : List IA} (h : RefAt w r sv L) : r < w.heap.size := lt_at h.own
theorem RefAt.keeps {w w' : World} {r : Nat} {sv : Value} {L : List IA} (h : RefAt w r sv L) {F : Nat → Prop} (k : Keeps F w w') (h1 : ¬ F r) (h2 : ∀ b, sv.ownBlock = some b → ¬ F b) : RefAt w' r sv L :=
  ⟨(k.block r h.lt h1).trans h.own, h.row.keeps k h2, h.ne⟩
/-- its cells, where it holds any -/
theorem RefAt.form {w : World} {r : Nat} {sv : Value} {L : List IA} (h : RefAt w r sv L) (h0 : 0 < L.length) : ∃ b off c, sv = .slice (some ⟨b, off, none⟩) L.length c ∧ L.length ≤ c ∧ c ≤ maxLen ∧ b < w.heap.size ∧ b ≠ r ∧
    ∀ i (hi : i < L.length), w.cell? ⟨b, off + i * 2, none⟩ = some (.string L[i].1) ∧ w.cell? ⟨b, off + (i * 2 + 1), none⟩ = some (.int .u64 L[i].2) := by
  obtain ⟨b, off, c, h1, h2, h3, h4, h5⟩ := h.row.cells h0
  refine ⟨b, off, c, h1, h2, h3, h4, fun e => h.ne (by rw [h1, ← e]; rfl), fun i hi => ?_⟩
  have hl := flatL_length L
  have e1 := h5 (2 * i) (by omega)
  have e2 := h5 (2 * i + 1) (by omega)
  rw [flatL_id L i hi] at e1
  rw [flatL_at L i hi] at e2
  rw [Nat.mul_comm i 2]
  exact ⟨e1, e2⟩
/-- the place of an id -/
def findN (L : List IA) (k : ByteArray) : Nat := L.findIdx fun x => decide (x.1 = k)
def findI (L : List IA) (k : ByteArray) : Int := if findN L k < L.length then findN L k else -1
theorem bytes_ne {a b : ByteArray} (h : a ≠ b) : (a.toList == b.toList) = false := by
  rw [ByteArray.toList_eq, ByteArray.toList_eq, beq_eq_false_iff_ne]; intro e; exact h (ByteArray.ext (Array.toList_inj.1 e))
set_option maxHeartbeats 1000000 in
theorem find_walk {w : World} {r : Nat} {sv : Value} {L : List IA} (h : RefAt w r sv L) (hl : L.length ≤ 2000) (k : ByteArray) :
    Calls Try.prog 27 #[.pointer (some ⟨r, 0, none⟩), .string k] w fun e w' => e = .returned (.int .i64 (findI L k)) ∧ w = w' := by
  obtain ⟨va, vc, rfl, _⟩ := h.row.val
  have hr := h.lt
  have hc : w.cell? ⟨r, 0, none⟩ = some (.slice va L.length vc) := by rw [cell_at h.own]; rfl
  have H := Lib.hid h
  clear h
  go_enter Try.func27, Try.ntmps27
  go_wp2_with fail
  go_loopw [5] (fun iv wr => ∃ i : Nat, iv = .int .i64 i ∧ i ≤ findN L k ∧ i ≤ L.length ∧ w = wr) (fun iv _ => L.length - (intOf iv).toNat)
  case atStart => exact ⟨0, rfl, by omega, by omega, rfl⟩
  case round =>
    obtain ⟨i, rfl, hif, hil, rfl⟩ := hrel
    by_cases hi : i < L.length
    · have hi' : (i : Int) < L.length := by omega
      obtain ⟨b, off, c, e1, g1, g2, g3, g4, g5⟩ := H.out.form (by omega)
      simp only [Value.slice.injEq] at e1
      obtain ⟨rfl, _, rfl⟩ := e1
      obtain ⟨q1, q2⟩ := g5 i hi
      have hfi : L[i].1 = k ↔ findN L k = i := by
        unfold findN at hif ⊢
        constructor
        · intro e
          have : ¬ i < L.findIdx fun x => decide (x.1 = k) := fun hlt => by have := List.not_of_lt_findIdx hlt; simp [e] at this
          omega
        · intro e
          have := List.findIdx_getElem (p := fun x : IA => decide (x.1 = k)) (xs := L) (w := by rw [e]; exact hi)
          simp only [e, decide_eq_true_eq] at this
          exact this
      obtain ⟨u, hu⟩ : ∃ u, L[i].1 = u := ⟨_, rfl⟩
      rw [hu] at q1 hfi
      have HFI := Lib.hid hfi
      clear hfi hu g5 q2
      by_cases hk : u = k
      · subst hk
        have hf := HFI.out.1 rfl
        have HF := Lib.hid hf
        have HE := Lib.hid (show findI L u = i by unfold findI; rw [hf, if_pos hi])
        clear hf hif
        go_wp2
        go_ret
        exact ⟨by rw [HE.out]; rfl, rfl⟩
      · have hd := bytes_ne hk
        have hne : findN L k ≠ i := fun e => hk (HFI.out.2 e)
        go_wp2
        go_roundw
        case rel => exact ⟨i + 1, by go_num, by omega, by omega, by trivial⟩
        case measure => simp [intOf]; omega
    · obtain rfl : i = L.length := by omega
      have hlt : ¬ (L.length : Int) < L.length := by omega
      have HE := Lib.hid (show findI L k = -1 by unfold findI; rw [if_neg (by omega)])
      clear hif
      go_wp2
      go_ret
      exact ⟨by rw [HE.out]; rfl, rfl⟩
theorem Try.info70 : (Try.prog.info? 70).map (fun i => (i.zero, i.size, i.bytes)) = some (some (.agg #[.string ByteArray.empty, .int .u64 0]), 2, 24) := by kernel_rfl
theorem find_has {L : List IA} {k : ByteArray} : hasL L k = true ↔ findN L k < L.length := by
  unfold hasL findN
  rw [List.findIdx_lt_length, List.any_eq_true]
theorem find_split {L : List IA} {k : ByteArray} (hu : Uniq L) (h : findN L k < L.length) : delL L k = L.take (findN L k) ++ L.drop (findN L k + 1) ∧ L[findN L k].1 = k := by
  have hk : L[findN L k].1 = k := by
    have := List.findIdx_getElem (p := fun x : IA => decide (x.1 = k)) (xs := L) (w := h)
    exact of_decide_eq_true this
  have hs : L = L.take (findN L k) ++ L[findN L k] :: L.drop (findN L k + 1) := by
    conv => lhs; rw [← List.take_append_drop (findN L k) L, List.drop_eq_getElem_cons h]
  refine ⟨?_, hk⟩
  have h1 := hu
  rw [hs] at h1
  have h2 := del_mid h1
  rw [← hs, hk] at h2
  exact h2
set_option maxHeartbeats 1000000 in
theorem rStop {w : World} {r : Nat} {sv : Value} {L : List IA} (h : RefAt w r sv L) (hu : Uniq L) (hl : L.length ≤ 2000) (k : ByteArray) :
    Calls Try.prog 15 #[.pointer (some ⟨r, 0, none⟩), .string k] w fun e w' => e = .returned (.bool (hasL L k)) ∧
      (∃ sv', RefAt w' r sv' (delL L k) ∧ ∀ b, sv'.ownBlock = some b → sv.ownBlock = some b ∨ w.heap.size ≤ b) ∧ Keeps (fun b => b = r ∨ sv.ownBlock = some b) w w' := by
  obtain ⟨i70, hi, hz0, hz1, hz2⟩ := info_parts Try.info70
  cases hk : hasL L k with
  | false =>
    have hf : findI L k = -1 := by unfold findI; rw [if_neg (fun h => by rw [find_has.2 h] at hk; cases hk)]
    have C := find_walk h hl k
    rw [hf] at C
    have C := Lib.hid C
    have H := Lib.hid h
    have HD := Lib.hid (delL_none hk)
    clear h hu hf hk
    go_enter Try.func15, Try.ntmps15
    go_wp2_with fail
    refine C.out.mono ?_; rintro e w1 ⟨rfl, rfl⟩
    go_wp2
    go_ret
    exact ⟨rfl, ⟨sv, by rw [HD.out]; exact H.out, fun b hb => .inl hb⟩, Keeps.refl _ _⟩
  | true =>
    have hlt := find_has.1 hk
    obtain ⟨at', hat⟩ : ∃ n, findN L k = n := ⟨_, rfl⟩
    have hf : findI L k = at' := by unfold findI; rw [if_pos hlt, hat]
    obtain ⟨hdel, _⟩ := find_split hu hlt
    rw [hat] at hdel hlt
    have C := find_walk h hl k
    rw [hf] at C
    have C := Lib.hid C
    obtain ⟨b, off, c, rfl, g1, g2, g3, g4, g5⟩ := h.form (by omega)
    have hc : w.cell? ⟨r, 0, none⟩ = some (.slice (some ⟨b, off, none⟩) L.length c) := by rw [cell_at h.own]; rfl
    have hrl := h.lt
    have hS1 : ∀ W, Keeps (fun _ => False) w W → Src Try.prog 2 36 (.slice (some ⟨b, off, none⟩) at' c) at' (flatL (L.take at')) W := by
      intro W hW
      have := (h.keeps hW id fun _ _ => id).row.srcTake (P := Try.prog) Try.underlying36 (flatL_one L) (k := at') (by omega)
      rwa [flatL_take] at this
    obtain ⟨a2, y8⟩ : ∃ a2, (if c = at' + 1 then (some ⟨b, off, none⟩ : Option Addr) else some ⟨b, off + (at' + 1) * 2, none⟩) = a2 := ⟨_, rfl⟩
    have ha2 : a2 = some ⟨b, off, none⟩ ∧ at' + 1 = c ∨ a2 = some ⟨b, off + (at' + 1) * 2, none⟩ := by rw [← y8]; split <;> rename_i hh <;> first | exact .inl ⟨rfl, hh.symm⟩ | exact .inr rfl
    have HA2 := Lib.hid ha2
    clear ha2
    have hS2 : ∀ W a, Keeps (fun _ => False) w W → (a = some ⟨b, off, none⟩ ∧ at' + 1 = c ∨ a = some ⟨b, off + (at' + 1) * 2, none⟩) → Src Try.prog 2 36 (.slice a (L.length - (at' + 1)) (c - (at' + 1))) (L.length - (at' + 1)) (flatL (L.drop (at' + 1))) W := by
      intro W a hW ha
      have := (h.keeps hW id fun _ _ => id).row.srcDrop (P := Try.prog) Try.underlying36 (flatL_one L) (k := at' + 1) (by omega) ha
      rwa [flatL_drop] at this
    have H := Lib.hid h
    have S1 := Lib.hid hS1
    have S2 := Lib.hid hS2
    have HDel := Lib.hid hdel
    have y1 : IntKind.i64.wrap ((at' : Int) + 1) = at' + 1 := IntWalk.i64_in _ (by omega)
    have y2 : (at' : Int) ≤ c := by omega
    have y3 : (at' : Int) + 1 ≤ L.length := by omega
    have y4 : ((at' : Int) + 1).toNat = at' + 1 := by omega
    have y6 : ¬ ((at' : Int) + 1 < 0) := by omega
    have y7 : ¬ ((at' : Int) < 0) := by omega
    clear h hS1 hS2 hdel hf hat hk hu g5
    go_enter Try.func15, Try.ntmps15
    go_wp2_with fail
    refine C.out.mono ?_; rintro e w1 ⟨rfl, rfl⟩
    go_wp2_with (at_builtin; refine wpList_app_rowN rfl _ _ 36 36 rfl 70 i70 _ 24 Try.underlying36 hi hz0 hz1 hz2 rfl _ 0 [] rfl (RowN.nil _ _ _) _ at' (flatL (L.take at')) rfl (S1.out _ (Keeps.refl _ _)) (by simp only [maxLen]; omega) (by omega) ?_)
    rintro v1 w1 r1 k1 n1
    have k1' : Keeps (fun _ => False) w w1 := k1.mono fun b _ hb => by cases hb
    have n1' : ∀ b, v1.ownBlock = Option.some b → w.heap.size ≤ b := fun b hb => (n1 b hb).resolve_left (by intro h; cases h)
    have K1 := Lib.hid k1'
    have N1 := Lib.hid n1'
    have R1 := Lib.hid (show RowN w1 70 2 v1 at' (flatL (L.take at')) by simpa using r1)
    have hc1 : w1.cell? ⟨r, 0, none⟩ = some (.slice (some ⟨b, off, none⟩) L.length c) := by rw [cell_at ((k1'.block r hrl id).trans H.out.own)]; rfl
    have hrl1 : r < w1.heap.size := Nat.lt_of_lt_of_le hrl k1'.size
    clear k1 n1 k1' n1' r1
    go_wp2_with (at_builtin; refine wpList_app_rowN rfl _ _ 36 36 rfl 70 i70 _ 24 Try.underlying36 hi hz0 hz1 hz2 rfl v1 at' (flatL (L.take at')) rfl R1.out _ (L.length - (at' + 1)) (flatL (L.drop (at' + 1))) rfl ?cB (by simp only [maxLen]; omega) (by omega) ?_)
    case cB => exact S2.out w1 a2 K1.out HA2.out
    rintro v2 w2 r2 k2 n2
    have k2' : Keeps (fun _ => False) w w2 := K1.out.trans' k2 fun i hi e => by have := N1.out i e; omega
    have n2' : ∀ b, v2.ownBlock = Option.some b → w.heap.size ≤ b := fun b hb => (n2 b hb).elim (N1.out b) fun h => Nat.le_trans K1.out.size h
    have ho2 := (k2'.block r hrl id).trans H.out.own
    have hc2 : w2.cell? ⟨r, 0, none⟩ = some (.slice (some ⟨b, off, none⟩) L.length c) := by rw [cell_at ho2]; rfl
    have hf2 : w2.frozen? ⟨r, 0, none⟩ = false := free_at ho2 _
    have hrl2 : r < w2.heap.size := Nat.lt_of_lt_of_le hrl k2'.size
    have r2' : RowN (w2.setCell ⟨r, 0, none⟩ v2) 70 2 v2 (delL L k).length (flatL (delL L k)) := by
      have e1 : flatL (L.take at') ++ flatL (L.drop (at' + 1)) = flatL (delL L k) := by rw [HDel.out, flatL_append]
      have e2 : at' + (L.length - (at' + 1)) = (delL L k).length := by rw [HDel.out, List.length_append, List.length_take, List.length_drop]; omega
      rw [e1, e2] at r2
      exact r2.keeps (F := fun b => b = r) ((Keeps.refl (fun b => b = r) w2).setCell (p := ⟨r, 0, none⟩) (fun _ => rfl) v2) fun b hb e => by have := n2' b hb; omega
    have HE := Lib.hid (show RefAt (w2.setCell ⟨r, 0, none⟩ v2) r v2 (delL L k) from ⟨by rw [block_same ho2]; rfl, r2', fun e => by have := n2' r e; omega⟩)
    have N2 := Lib.hid n2'
    have K2 := Lib.hid (show Keeps (fun b' => b' = r ∨ (Value.slice (Option.some ⟨b, off, none⟩) L.length c).ownBlock = Option.some b') w (w2.setCell ⟨r, 0, none⟩ v2) from (k2'.mono fun _ _ h => h.elim).setCell (p := ⟨r, 0, none⟩) (fun _ => .inl rfl) v2)
    obtain ⟨va2, vc2, rfl, _⟩ := r2'.val
    clear k2 n2 r2 k2' n2' r2' ho2 S1 S2 R1 N1 K1 HDel C
    go_wp2
    all_goals
      go_ret
      exact ⟨rfl, ⟨_, HE.out, fun b hb => .inr (N2.out b hb)⟩, K2.out⟩
end Go.Proofs.Ytfecgibdhglhiaa
