/-
  The document's frame reader in memory ('Rf': its text, its error) and its Feed walked: it tells what frame's Feed tells.
  Conditions: its text takes at most 2^47 bytes, and there are at most 2^40 messages in it.
-/
import Derived.Test.YtfijpnhnlpgkgaaDoorPack
namespace Go.Proofs.YtfijpnhnlpgkgaaDoor
open Go.RowKit
theorem or_shift (k : Nat) (x b : Int) (h0 : 0 ≤ x) (h1 : x * 2 ^ k ≤ 4294967295) (h2 : 0 ≤ b) (h3 : b < 2 ^ k) (hk : k ≤ 24) : bits .or .i64 (x * 2 ^ k) b = x * 2 ^ k + b := by
  obtain ⟨m, rfl⟩ : ∃ m : Nat, x = m := ⟨x.toNat, by omega⟩
  obtain ⟨c, rfl⟩ : ∃ c : Nat, b = c := ⟨b.toNat, by omega⟩
  have e1 : (m : Int) * 2 ^ k = ((m * 2 ^ k : Nat) : Int) := by simp
  have hc : c < 2 ^ k := by have : ((c : Int)) < ((2 ^ k : Nat) : Int) := by simpa using h3
                            omega
  have h2k : 2 ^ k ≤ 16777216 := by
    have := Nat.pow_le_pow_right (n := 2) (by omega) hk
    simpa using this
  rw [e1] at h1 ⊢
  have h5 : m * 2 ^ k ||| c = m * 2 ^ k + c := by
    have := Nat.two_pow_add_eq_or_of_lt (i := k) (b := c) hc m
    rw [Nat.mul_comm] at this
    exact this.symm
  have f1 : (BitVec.ofInt 64 ((m * 2 ^ k : Nat) : Int)).toNat = m * 2 ^ k := by
    rw [BitVec.ofInt_natCast, BitVec.toNat_ofNat]; exact Nat.mod_eq_of_lt (by omega)
  have f2 : (BitVec.ofInt 64 (c : Int)).toNat = c := by
    rw [BitVec.ofInt_natCast, BitVec.toNat_ofNat]; exact Nat.mod_eq_of_lt (by omega)
  show IntKind.i64.wrap ((BitVec.ofInt 64 ((m * 2 ^ k : Nat) : Int) ||| BitVec.ofInt 64 (c : Int)).toNat : Int) = _
  rw [BitVec.toNat_or, f1, f2, h5, IntWalk.i64_in _ (by omega)]
  omega
def Rf (w : World) (r : Nat) (l : Bs) (e : Int) : Prop := w.heap[r]? = some (.cells #[.string (mk l), .int .i64 e] 28 (0, 0))
section
variable {w w' : World} {G : Nat → Prop} {r : Nat} {l : Bs} {e : Int}
theorem Rf.lt (h : Rf w r l e) : r < w.heap.size := lt_at h
theorem Rf.keeps (h : Rf w r l e) (k : Keeps G w w') (hG : ¬ G r) : Rf w' r l e := (k.block r h.lt hG).trans h
theorem rfeed_bad (h : Rf w r l e) (he : e ≠ 0) (s : ByteArray) : Calls Tryd.prog 19 #[.pointer (some ⟨r, 0, none⟩), .string s] w (BadOut e w) := by
  have hc : w.cell? ⟨r, 1, none⟩ = some (.int .i64 e) := by rw [cell_at h]; simp
  have hrl := lt_at h
  have hb : (e != 0) = true := by simpa using he
  clear h he
  go_enter Tryd.func19, Tryd.ntmps19
  go_wp2_with fail
  go_quiet (fail)
  go_wp2_with fail
  go_ret2
  exact ⟨rfl, (Keeps.refl _ _).drewN _⟩
end
theorem row_ne' {w : World} {r : Nat} {v : Value} {xs : List Value} {t t' : TypeId} {cs : Array Value} {f : Nat × Nat} (h : RowAt w t' v xs) (hr : w.heap[r]? = some (.cells cs t f)) (ht : t ≠ t') : v.ownBlock ≠ some r := by
  intro hv
  rcases h with ⟨rfl, _⟩ | ⟨b, off, c, cur, rfl, hb, _⟩
  · cases hv
  · simp only [Value.ownBlock, Option.some.injEq] at hv
    subst hv
    rw [hr] at hb
    simp only [Option.some.injEq, Obj.cells.injEq] at hb
    exact ht hb.2.1
def RefOut (w : World) (r : Nat) (l : Bs) (ev : Ending) (w' : World) : Prop :=
  ∃ ov, ev = .returned (.tuple #[ov, .int .i64 (parse l).2.2]) ∧ RowAt w' 9 ov ((parse l).1.map sV) ∧ Rf w' r (parse l).2.1 (parse l).2.2 ∧
    (∀ b, ov.ownBlock = some b → w.heap.size ≤ b) ∧ Keeps (fun b => b = r) w w'
def RefAt (w : World) (r : Nat) (l0 : Bs) (ov : Value) (wr : World) : Prop :=
  ∃ ms l, Rf wr r l 0 ∧ RowAt wr 9 ov (ms.map sV) ∧ parse l0 = (ms ++ (parse l).1, (parse l).2) ∧ ms.length * 5 + l.length ≤ l0.length ∧
    (∀ b, ov.ownBlock = some b → w.heap.size ≤ b) ∧ Keeps (fun b => b = r) w wr
def rfLen (r : Nat) (w : World) : Nat := match w.cell? ⟨r, 0, none⟩ with | some (.string s) => s.size | _ => 0
theorem Rf.len {w : World} {r : Nat} {l : Bs} {e : Int} (h : Rf w r l e) : rfLen r w = l.length := by
  unfold rfLen
  rw [cell_at h]; exact mk_size l
theorem rf_end {w : World} {r : Nat} {l : Bs} {e : Int} (h : Rf w r l e) (n : Int) (i j : Nat) :
    Rf ((((w.drewN i).setCell ⟨r, 1, none⟩ (.int .i64 n)).setCell ⟨r, 0, none⟩ (.string .empty)).drewN j) r [] n ∧ Keeps (fun b => b = r) w ((((w.drewN i).setCell ⟨r, 1, none⟩ (.int .i64 n)).setCell ⟨r, 0, none⟩ (.string .empty)).drewN j) := by
  constructor
  · have h' : Rf (w.drewN i) r l e := h
    unfold Rf
    show (((w.drewN i).setCell ⟨r, 1, none⟩ (.int .i64 n)).setCell ⟨r, 0, none⟩ (.string .empty)).heap[r]? = _
    rw [block_same (block_same h' 1 (.int .i64 n))]; rfl
  · exact ((((Keeps.refl (fun b => b = r) w).drewN i).setCell (p := ⟨r, 1, none⟩) (fun _ => rfl) _).setCell (p := ⟨r, 0, none⟩) (fun _ => rfl) _).drewN j
set_option maxRecDepth 100000 in
set_option maxHeartbeats 4000000 in
theorem rfeed_ok0 {w : World} {r : Nat} {l : Bs} (h : Rf w r l 0) (c l0 : Bs) (hl0 : l ++ c = l0) (hl : l0.length ≤ 140737488355328) (hm : (parse l0).1.length ≤ 1099511627776) :
    Calls Tryd.prog 19 #[.pointer (some ⟨r, 0, none⟩), .string (mk c)] w (RefOut w r l0) := by
  obtain ⟨i9, hi9, hy0, hy1, hy2⟩ := info_parts Tryd.info9
  have hc0 : w.cell? ⟨r, 0, none⟩ = some (.string (mk l)) := by rw [cell_at h]; rfl
  have hc1 : w.cell? ⟨r, 1, none⟩ = some (.int .i64 0) := by rw [cell_at h]; rfl
  have hf0 := free_at h 0
  have hrl := h.lt
  have hat : RefAt w r l0 (.slice none 0 0) (w.setCell ⟨r, 0, none⟩ (.string (mk l0))) := by
    refine ⟨[], l0, ?_, RowAt.nil _ _, by simp, by simp, nofun, (Keeps.refl (fun b => b = r) w).setCell (p := ⟨r, 0, none⟩) (fun _ => rfl) _⟩
    unfold Rf
    rw [block_same h]; rfl
  have HA := Lib.hid hat
  have happ : mk l ++ mk c = mk l0 := by rw [mk_append, hl0]
  have hsz : (mk l).size + (mk c).size ≤ 140737488355328 := by rw [mk_size, mk_size, ← List.length_append, hl0]; exact hl
  obtain ⟨s, hs⟩ : ∃ s, mk l = s := ⟨_, rfl⟩
  obtain ⟨t, ht⟩ : ∃ t, mk c = t := ⟨_, rfl⟩
  obtain ⟨u, hu⟩ : ∃ u, mk l0 = u := ⟨_, rfl⟩
  rw [hs] at hsz hc0 happ
  rw [ht] at hsz happ ⊢
  rw [hu] at happ HA
  have HM := Lib.hid hm
  have HL := Lib.hid hl
  clear h hat hs ht hl0 hm hl hu
  go_enter Tryd.func19, Tryd.ntmps19
  go_wp2_with fail
  clear happ hc0 hc1 hf0 hsz
  go_loopw [6] (fun ov wr => RefAt w r l0 ov wr) (fun _ wr => rfLen r wr)
  case atStart => exact HA.out
  case round =>
    clear HA
    obtain ⟨ms, m, h1, h2, h3, h4, h5, h6⟩ := hrel
    have hlr := h1.len
    have hrr := h1.lt
    obtain ⟨oa, oc, rfl⟩ := h2.val
    rw [List.length_map] at h2 h5
    simp only [List.length_map]
    have e0 : wr.cell? ⟨r, 0, none⟩ = some (.string (mk m)) := by rw [cell_at h1]; rfl
    have e1 : wr.cell? ⟨r, 1, none⟩ = some (.int .i64 0) := by rw [cell_at h1]; rfl
    have f0 := free_at h1 0
    have f1 := free_at h1 1
    have hmz : (mk m).size = m.length := mk_size m
    have hml : m.length ≤ 140737488355328 := by have := HL.out; omega
    have HH := Lib.hid (⟨h1, h2, h3, h4, h5, h6⟩ : Rf wr r m 0 ∧ RowAt wr 9 (.slice oa ms.length oc) (ms.map sV) ∧ parse l0 = (ms ++ (parse m).1, (parse m).2) ∧ ms.length * 5 + m.length ≤ l0.length ∧ (∀ b, (Value.slice oa ms.length oc).ownBlock = some b → w.heap.size ≤ b) ∧ Keeps (fun b => b = r) w wr)
    have HLr := Lib.hid hlr
    clear h1 h2 h3 h4 h5 h6 hlr
    by_cases hs : m.length < 4
    · have HE := Lib.hid (show RefOut w r l0 (.returned (.tuple #[.slice oa ms.length oc, .int .i64 0])) wr from by
        obtain ⟨h1, h2, h3, h4, h5, h6⟩ := HH.out
        rw [parse_short hs] at h3
        refine ⟨_, by rw [h3], ?_, ?_, h5, h6⟩
        · rw [h3]; simpa using h2
        · rw [h3]; exact h1)
      have hs' : ((mk m).size : Int) < 4 := by omega
      obtain ⟨q, hq⟩ : ∃ q, mk m = q := ⟨_, rfl⟩
      rw [hq] at e0 hs'
      clear hmz hq
      go_wp2_with fail
      go_ret2
      exact HE.out
    obtain ⟨a, b, c', d, rest, hm, hbe⟩ := be4_cons (l := m) (by omega)
    have ha := a.toNat_lt; have hb := b.toNat_lt; have hc := c'.toNat_lt; have hd := d.toNat_lt
    obtain ⟨q, hq⟩ : ∃ q, mk m = q := ⟨_, rfl⟩
    have i0 : ∀ W : World, (Instr.index 9 (.string q) (.int .i64 0)).run Tryd.prog W = .ok (.int .u8 a.toNat) W := fun W => by
      rw [← hq, hm, run_index_string W 9 _ .i64 0 Tryd.underlying9, dif_pos ⟨by omega, by rw [mk_size]; simp; omega⟩]; rfl
    have i1 : ∀ W : World, (Instr.index 9 (.string q) (.int .i64 1)).run Tryd.prog W = .ok (.int .u8 b.toNat) W := fun W => by
      rw [← hq, hm, run_index_string W 9 _ .i64 1 Tryd.underlying9, dif_pos ⟨by omega, by rw [mk_size]; simp; omega⟩]; rfl
    have i2 : ∀ W : World, (Instr.index 9 (.string q) (.int .i64 2)).run Tryd.prog W = .ok (.int .u8 c'.toNat) W := fun W => by
      rw [← hq, hm, run_index_string W 9 _ .i64 2 Tryd.underlying9, dif_pos ⟨by omega, by rw [mk_size]; simp; omega⟩]; rfl
    have i3 : ∀ W : World, (Instr.index 9 (.string q) (.int .i64 3)).run Tryd.prog W = .ok (.int .u8 d.toNat) W := fun W => by
      rw [← hq, hm, run_index_string W 9 _ .i64 3 Tryd.underlying9, dif_pos ⟨by omega, by rw [mk_size]; simp; omega⟩]; rfl
    have hs' : ¬ (q.size : Int) < 4 := by rw [← hq, hmz]; omega
    rw [hq] at e0
    clear hmz
    have HQ := Lib.hid hq
    clear hq hm
    obtain ⟨x1, o1, hx1⟩ : ∃ x1, bits .or .i64 ((a.toNat : Int) * 16777216) ((b.toNat : Int) * 65536) = x1 ∧ x1 = ((a.toNat : Int) * 256 + b.toNat) * 65536 :=
      ⟨_, rfl, by rw [show (16777216 : Int) = 2 ^ 24 from rfl, or_shift 24 _ _ (by omega) (by omega) (by omega) (by omega) (by omega)]; omega⟩
    obtain ⟨x2, o2, hx2⟩ : ∃ x2, bits .or .i64 x1 ((c'.toNat : Int) * 256) = x2 ∧ x2 = (((a.toNat : Int) * 256 + b.toNat) * 256 + c'.toNat) * 256 :=
      ⟨_, rfl, by rw [hx1, show (65536 : Int) = 2 ^ 16 from rfl, or_shift 16 _ _ (by omega) (by omega) (by omega) (by omega) (by omega)]; omega⟩
    obtain ⟨k, hk⟩ : ∃ k, be4 m = k := ⟨_, rfl⟩
    have o3 : bits .or .i64 x2 (d.toNat : Int) = k := by
      rw [hx2, show (256 : Int) = 2 ^ 8 from rfl, or_shift 8 _ _ (by omega) (by omega) (by omega) (by omega) (by omega), ← hk, hbe]; omega
    have hk4 : k < 4294967296 := by rw [← hk]; exact be4_lt m
    have HK := Lib.hid hk
    have HE1 := fun (n : Int) (hn : parse m = ([], [], n)) => Lib.hid (show ∀ W, Keeps (fun b => b = r) wr W → Rf W r [] n → RefOut w r l0 (.returned (.tuple #[.slice oa ms.length oc, .int .i64 n])) W from fun W hW hr => by
      obtain ⟨h1, h2, h3, h4, h5, h6⟩ := HH.out
      rw [hn] at h3
      refine ⟨_, by rw [h3], ?_, ?_, h5, h6.trans hW⟩
      · rw [h3]; simpa using h2.keeps hW fun b hb e => by
          subst e
          exact row_ne' h2 h1 (by decide) hb
      · rw [h3]; exact hr)
    clear hx1 hx2 hk hbe
    by_cases hz : k = 0
    · have hp := parse_zero (l := m) (by omega) (HK.out.trans hz)
      have HE := Lib.hid (show ∀ i j, RefOut w r l0 (.returned (.tuple #[.slice oa ms.length oc, .int .i64 2])) ((((wr.drewN i).setCell ⟨r, 1, none⟩ (.int .i64 2)).setCell ⟨r, 0, none⟩ (.string .empty)).drewN j) from
        fun i j => (HE1 2 hp).out _ (rf_end HH.out.1 2 i j).2 (rf_end HH.out.1 2 i j).1)
      subst hz
      clear HE1 hp
      go_wp2_with fail
      go_quiet (fail)
      go_wp2_with fail
      go_quiet (fail)
      go_wp2_with fail
      go_ret2
      exact HE.out _ _
    have hzb : ((k : Int) == 0) = false := by simp; omega
    by_cases hg : 65536 < k
    · have hp := parse_long (l := m) (by omega) (by rw [HK.out]; exact hg)
      have HE := Lib.hid (show ∀ i j, RefOut w r l0 (.returned (.tuple #[.slice oa ms.length oc, .int .i64 3])) ((((wr.drewN i).setCell ⟨r, 1, none⟩ (.int .i64 3)).setCell ⟨r, 0, none⟩ (.string .empty)).drewN j) from
        fun i j => (HE1 3 hp).out _ (rf_end HH.out.1 3 i j).2 (rf_end HH.out.1 3 i j).1)
      have hg' : (65536 : Int) < k := by omega
      clear HE1 hp
      go_wp2_with fail
      go_quiet (fail)
      go_wp2_with fail
      go_quiet (fail)
      go_wp2_with fail
      go_ret2
      exact HE.out _ _
    have hg' : ¬ (65536 : Int) < k := by omega
    clear HE1
    have hqs : q.size = m.length := by rw [← HQ.out, mk_size]
    by_cases hw : m.length < 4 + k
    · have hp := parse_wait (l := m) (by omega) (by rw [HK.out]; exact hz) (by rw [HK.out]; omega) (by rw [HK.out]; exact hw)
      have HE := Lib.hid (show ∀ i, RefOut w r l0 (.returned (.tuple #[.slice oa ms.length oc, .int .i64 0])) (wr.drewN i) from fun i => by
        obtain ⟨h1, h2, h3, h4, h5, h6⟩ := HH.out
        rw [hp] at h3
        refine ⟨_, by rw [h3], ?_, ?_, h5, h6.drewN i⟩
        · rw [h3]; simpa using h2.keeps ((Keeps.refl (fun _ => False) wr).drewN i) fun _ _ => id
        · rw [h3]; exact h1)
      have hw' : (q.size : Int) < 4 + k := by omega
      clear hp hqs
      go_wp2_with fail
      go_quiet (fail)
      go_wp2_with fail
      go_ret2
      exact HE.out _
    · have hp := parse_msg (l := m) (by rw [HK.out]; exact hz) (by rw [HK.out]; omega) (by rw [HK.out]; omega)
      have hw' : ¬ (q.size : Int) < 4 + k := by omega
      have y1 : (4 + (k : Int)).toNat = 4 + k := by omega
      have y2 : (4 : Int) + k ≤ q.size := by omega
      have hx : q.extract 4 (4 + k) = mk ((m.drop 4).take k) := by rw [← HQ.out, mk_extract]; congr 2; omega
      have hy : q.extract (4 + k) q.size = mk (m.drop (4 + k)) := by
        rw [← HQ.out, mk_extract, mk_size, List.take_of_length_le (by rw [List.length_drop]; omega)]
      have HX := Lib.hid hx
      have HY := Lib.hid hy
      have hms : ms.length + 1 ≤ 1099511627776 := by
        have h3 := HH.out.2.2.1
        have := HM.out
        rw [h3, hp] at this
        simp only [List.length_append, List.length_cons] at this
        omega
      have HP := Lib.hid hp
      clear hp hqs hx hy
      go_wp2_with fail
      go_quiet (fail)
      go_wp2_with (at_builtin; refine wpList_app_row rfl _ _ 32 32 rfl 9 i9 (.string ByteArray.empty) 16 Tryd.underlying32 hi9 hy0 hy1 hy2 rfl _ (ms.map sV) rfl (HH.out.2.1.keeps (((Keeps.refl (fun _ => False) _).drewN _).alloc _) fun _ _ => id) _ 1 [.string (q.extract 4 (4 + k))] rfl ?cB (by simp [maxLen]; omega) (by simp; omega) ?_)
      case cB => exact RowAt.src (e := 9) (xs := [.string (q.extract 4 (4 + k))]) Tryd.underlying32 (.inr ⟨_, 0, 1, #[.string (q.extract 4 (4 + k))], rfl, heap_alloc_new _ _, by simp, by simp [maxLen], by simp, by simp⟩) (fun u hu => by simp only [List.mem_singleton] at hu; subst hu; rfl)
      intro nv w5 r5 k5 n5
      obtain ⟨h1, h2, h3, h4, h5, h6⟩ := HH.out
      have hne := row_ne' h2 h1 (by decide)
      have hw5 : Keeps (fun b => (Value.slice oa ms.length oc).ownBlock = Option.some b) wr w5 := (((Keeps.refl _ _).drewN _).alloc _).trans k5
      have m5 : ∀ b, nv.ownBlock = Option.some b → (Value.slice oa ms.length oc).ownBlock = Option.some b ∨ wr.heap.size ≤ b := fun b hb => (n5 b hb).imp id fun h => by first | omega | (simp at h; omega)
      have hr5 : Rf w5 r m 0 := h1.keeps hw5 hne
      have hne5 := row_ne' r5 hr5 (by decide)
      have e5 : w5.cell? ⟨r, 0, none⟩ = some (.string q) := by rw [cell_at hr5, ← HQ.out]; rfl
      have f5 := free_at hr5 0
      have hl5 := hr5.lt
      have hrd6 : Rf (w5.setCell ⟨r, 0, none⟩ (.string (q.extract (4 + k) q.size))) r (m.drop (4 + k)) 0 := by
        rw [HY.out]; unfold Rf; rw [block_same hr5]; rfl
      have hrel' : RefAt w r l0 nv (w5.setCell ⟨r, 0, none⟩ (.string (q.extract (4 + k) q.size))) := by
        refine ⟨ms ++ [(m.drop 4).take k], m.drop (4 + k), hrd6, ?_, ?_, ?_, fun b hb => ?_, ?_⟩
        · rw [List.map_append]
          have : [Value.string (q.extract 4 (4 + k))] = [(m.drop 4).take k].map sV := by rw [HX.out]; rfl
          rw [← this]
          exact r5.of_same fun b hb => block_other _ _ _ _ fun e => hne5 (e ▸ hb)
        · rw [h3, HP.out, HK.out, List.append_assoc]; rfl
        · rw [List.length_append, List.length_drop, List.length_singleton]; omega
        · rcases m5 b hb with h | h
          · exact h5 b h
          · exact Nat.le_trans h6.size h
        · exact ((h6.trans' hw5 fun i hi e => by have := h5 i e; omega).setCell (p := ⟨r, 0, none⟩) (fun _ => rfl) _)
      have hmeas : rfLen r (w5.setCell ⟨r, 0, none⟩ (.string (q.extract (4 + k) q.size))) < rfLen r wr := by
        rw [hrd6.len, HLr.out, List.length_drop]; omega
      have HR := Lib.hid hrel'
      have HMs := Lib.hid hmeas
      obtain ⟨na, nc, rfl⟩ := r5.val
      clear h1 h2 h3 h4 h5 h6 r5 k5 n5 hw5 m5 hr5 hne hne5 hrd6 hrel' hmeas i0 i1 i2 i3 o1 o2 o3
      go_wp2
      go_roundw
      case rel => exact HR.out
      case measure => exact HMs.out
theorem rfeed_ok {w : World} {r : Nat} {l : Bs} (h : Rf w r l 0) (c : Bs) (hl : (l ++ c).length ≤ 140737488355328) (hm : (parse (l ++ c)).1.length ≤ 1099511627776) :
    Calls Tryd.prog 19 #[.pointer (some ⟨r, 0, none⟩), .string (mk c)] w (RefOut w r (l ++ c)) := rfeed_ok0 h c _ rfl hl hm
end Go.Proofs.YtfijpnhnlpgkgaaDoor
