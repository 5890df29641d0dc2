/-
  A frame reader in memory ('Rd': its buffer as a list of bytes, its error), and its method next walked: no whole message, a wrong length, a message.
  Conditions: the variables errShort and errors.errorType hold what the text lays.
-/
import Derived.Test.YtfijpnhnlpgkgaaDoorPlain
import Derived.Deep.QuietTactic
import Derived.BigQuiet
import Derived.Laws.Bits64b
namespace Go.Proofs.YtfijpnhnlpgkgaaDoor
open Go.RowKit
structure Glob (w : World) : Prop where
  et : w.cell? ⟨1, 0, none⟩ = some (.iface 109 (.agg #[.pointer (some ⟨2, 78, none⟩)]))
  es : ∃ a, w.cell? ⟨0, 0, none⟩ = some (.iface 122 (.pointer (some a)))
theorem Glob.size {w : World} (h : Glob w) : 2 ≤ w.heap.size := by
  have := World.block_lt_of_cell? w _ h.et
  exact this
theorem Glob.keeps {w w' : World} {F : Nat → Prop} (h : Glob w) (k : Keeps F w w') (hF : ∀ b, F b → 2 ≤ b) : Glob w' := by
  have hs := h.size
  have e : ∀ b, b < 2 → w'.cell? ⟨b, 0, none⟩ = w.cell? ⟨b, 0, none⟩ := fun b hb => by
    unfold World.cell?
    rw [k.block b (by omega) fun hf => by have := hF b hf; omega]
  exact ⟨(e 1 (by omega)).trans h.et, by obtain ⟨a, ha⟩ := h.es; exact ⟨a, (e 0 (by omega)).trans ha⟩⟩
/-- a reader: its block, its buffer's row -/
def Rd (w : World) (F : Nat → Prop) (r : Nat) (l : Bs) (e : Int) : Prop :=
  ∃ v, w.heap[r]? = some (.cells #[v, .int .i64 e] 76 (0, 0)) ∧ RowAt w 5 v (l.map uV) ∧ ∀ b, F b ↔ b = r ∨ v.ownBlock = some b
section
variable {w w' : World} {F G : Nat → Prop} {r : Nat} {l : Bs} {e : Int}
theorem row_ne {v : Value} {xs : List Value} {t : TypeId} {cs : Array Value} {f : Nat × Nat} (h : RowAt w 5 v xs) (hr : w.heap[r]? = some (.cells cs t f)) (ht : t ≠ 5) : v.ownBlock ≠ some r := by
  intro hv
  rcases h with ⟨rfl, _⟩ | ⟨b, off, c, cur, rfl, hb, _⟩
  · cases hv
  · simp only [Value.ownBlock, Option.some.injEq] at hv
    subst hv
    rw [hr] at hb
    simp only [Option.some.injEq, Obj.cells.injEq] at hb
    exact ht hb.2.1
theorem Rd.lt (h : Rd w F r l e) {b : Nat} (hb : F b) : b < w.heap.size := by
  obtain ⟨v, h1, h2, h3⟩ := h
  rcases (h3 b).1 hb with rfl | h4
  · exact lt_at h1
  · exact h2.lt h4
theorem Rd.own (h : Rd w F r l e) : F r := by obtain ⟨v, _, _, h3⟩ := h; exact (h3 r).2 (.inl rfl)
theorem Rd.keeps (h : Rd w F r l e) (k : Keeps G w w') (hG : ∀ b, F b → ¬ G b) : Rd w' F r l e := by
  obtain ⟨v, h1, h2, h3⟩ := h
  exact ⟨v, (k.block r (lt_at h1) (hG r ((h3 r).2 (.inl rfl)))).trans h1, h2.keeps k fun b hb => hG b ((h3 b).2 (.inr hb)), h3⟩
end
def ShortOut (w : World) (ev : Ending) (w' : World) : Prop := ∃ a, ev = .returned (.tuple #[.string .empty, .iface 122 (.pointer (some a))]) ∧ Keeps (fun _ => False) w w'
set_option maxRecDepth 100000 in
theorem next_short {w : World} {F : Nat → Prop} {r : Nat} {l : Bs} {e : Int} (h : Rd w F r l e) (g : Glob w) (hl : l.length < 4) :
    Calls Tryd.prog 39 #[.pointer (some ⟨r, 0, none⟩)] w (ShortOut w) := by
  obtain ⟨v, h1, h2, h3⟩ := h
  obtain ⟨va, vc, rfl⟩ := h2.val
  have hc : w.cell? ⟨r, 0, none⟩ = some (.slice va l.length vc) := by rw [cell_at h1]; simp
  obtain ⟨a, ha⟩ := g.es
  have hl' : (l.length : Int) < 4 := by omega
  have hrl := lt_at h1
  clear h1 h2 h3 g
  go_enter Tryd.func39, Tryd.ntmps39
  go_wp2_with fail
  go_quiet (fail)
  go_wp2_with fail
  go_ret2
  exact ⟨a, rfl, (Keeps.refl _ _).drewN _⟩
theorem or_byte (x b : Int) (h0 : 0 ≤ x) (h1 : x ≤ 16777215) (h2 : 0 ≤ b) (h3 : b ≤ 255) : bits .or .i64 (x * 256) b = x * 256 + b := by
  obtain ⟨m, rfl⟩ : ∃ m : Nat, x = m := ⟨x.toNat, by omega⟩
  obtain ⟨k, rfl⟩ : ∃ k : Nat, b = k := ⟨b.toNat, by omega⟩
  have e1 : (m : Int) * 256 = ((m * 256 : Nat) : Int) := by omega
  have h5 : m * 256 ||| k = m * 256 + k := by
    have := Nat.two_pow_add_eq_or_of_lt (i := 8) (b := k) (by omega) m
    rw [Nat.mul_comm] at this
    exact this.symm
  have f1 : (BitVec.ofInt 64 ((m * 256 : Nat) : Int)).toNat = m * 256 := by
    rw [BitVec.ofInt_natCast, BitVec.toNat_ofNat]; exact Nat.mod_eq_of_lt (by omega)
  have f2 : (BitVec.ofInt 64 (k : Int)).toNat = k := by
    rw [BitVec.ofInt_natCast, BitVec.toNat_ofNat]; exact Nat.mod_eq_of_lt (by omega)
  rw [e1]
  show IntKind.i64.wrap ((BitVec.ofInt 64 ((m * 256 : Nat) : Int) ||| BitVec.ofInt 64 (k : Int)).toNat : Int) = _
  rw [BitVec.toNat_or, f1, f2, h5, IntWalk.i64_in _ (by omega)]
  omega
theorem or_zero (b : Int) (h2 : 0 ≤ b) (h3 : b ≤ 255) : bits .or .i64 0 b = b := by
  have := or_byte 0 b (by omega) (by omega) h2 h3
  simpa using this
/-- the first four bytes, as the walk reads them -/
theorem head_at {w : World} {v : Value} {l : Bs} (h : RowAt w 5 v (l.map uV)) (hl : 4 ≤ l.length) :
    ∃ (b off c : Nat) (a0 a1 a2 a3 x1 x2 : Int), v = .slice (some ⟨b, off, none⟩) l.length c ∧ l.length ≤ c ∧ c ≤ maxLen ∧
      (∀ i (hi : i < l.length), w.cell? ⟨b, off + i, none⟩ = some (uV l[i])) ∧
      w.cell? ⟨b, off, none⟩ = some (.int .u8 a0) ∧ w.cell? ⟨b, off + 1, none⟩ = some (.int .u8 a1) ∧ w.cell? ⟨b, off + 2, none⟩ = some (.int .u8 a2) ∧ w.cell? ⟨b, off + 3, none⟩ = some (.int .u8 a3) ∧
      bits .or .i64 0 a0 = a0 ∧ bits .or .i64 (a0 * 256) a1 = x1 ∧ bits .or .i64 (x1 * 256) a2 = x2 ∧ bits .or .i64 (x2 * 256) a3 = (be4 l : Nat) ∧
      (0 ≤ a0 ∧ a0 ≤ 255) ∧ (0 ≤ a1 ∧ a1 ≤ 255) ∧ (0 ≤ a2 ∧ a2 ≤ 255) ∧ (0 ≤ a3 ∧ a3 ≤ 255) ∧ (0 ≤ x1 ∧ x1 ≤ 65535) ∧ (0 ≤ x2 ∧ x2 ≤ 16777215) := by
  obtain ⟨b, off, c, rfl, h1, h2, h3⟩ := h.cells (by rw [List.length_map]; omega)
  rw [List.length_map] at h1
  have hc : ∀ i (hi : i < l.length), w.cell? ⟨b, off + i, none⟩ = some (uV l[i]) := fun i hi => by
    have := h3 i (by rw [List.length_map]; exact hi)
    rw [List.getElem_map] at this; exact this
  obtain ⟨p, q, s, t, r, rfl, hb⟩ := be4_cons hl
  have := p.toNat_lt; have := q.toNat_lt; have := s.toNat_lt; have := t.toNat_lt
  refine ⟨b, off, c, p.toNat, q.toNat, s.toNat, t.toNat, p.toNat * 256 + q.toNat, (p.toNat * 256 + q.toNat) * 256 + s.toNat, by rw [List.length_map], h1, h2, hc, hc 0 (by omega), hc 1 (by omega), hc 2 (by omega), hc 3 (by omega),
    or_zero _ (by omega) (by omega), or_byte _ _ (by omega) (by omega) (by omega) (by omega), or_byte _ _ (by omega) (by omega) (by omega) (by omega), ?_, ⟨by omega, by omega⟩, ⟨by omega, by omega⟩, ⟨by omega, by omega⟩, ⟨by omega, by omega⟩, ⟨by omega, by omega⟩, ⟨by omega, by omega⟩⟩
  rw [or_byte _ _ (by omega) (by omega) (by omega) (by omega), hb]
  omega
set_option maxRecDepth 100000 in
set_option maxHeartbeats 1000000 in
theorem next_zero {w : World} {F : Nat → Prop} {r : Nat} {l : Bs} {e : Int} (h : Rd w F r l e) (hl : 4 ≤ l.length) (h0 : be4 l = 0) :
    Calls Tryd.prog 39 #[.pointer (some ⟨r, 0, none⟩)] w fun ev w' => ev = .returned (.tuple #[.string .empty, .iface 82 (.agg #[.int .i64 2])]) ∧ w = w' := by
  obtain ⟨v, h1, h2, h3⟩ := h
  obtain ⟨b, off, c, a0, a1, a2, a3, x1, x2, rfl, hlc, hcm, _, c0, c1, c2, c3, o0, o1, o2, o3, b0, b1, b2, b3, b4, b5⟩ := head_at h2 hl
  have hc : w.cell? ⟨r, 0, none⟩ = some (.slice (some ⟨b, off, none⟩) l.length c) := by rw [cell_at h1]; rfl
  have hl' : ¬ (l.length : Int) < 4 := by omega
  have hrl := lt_at h1
  rw [h0] at o3
  unfold maxLen at hcm
  clear h1 h2 h3 h0
  go_enter Tryd.func39, Tryd.ntmps39
  go_wp2_with fail
  refine wp_loop_rounds 5 ?_
  rw [rounds_succ]; go_wp2_with fail
  rw [rounds_succ]; go_wp2_with fail
  rw [rounds_succ]; go_wp2_with fail
  rw [rounds_succ]; go_wp2_with fail
  rw [rounds_succ]; go_wp2_with fail
  go_ret2
  exact ⟨rfl, rfl⟩
set_option maxRecDepth 100000 in
set_option maxHeartbeats 1000000 in
theorem next_long {w : World} {F : Nat → Prop} {r : Nat} {l : Bs} {e : Int} (h : Rd w F r l e) (hl : 4 ≤ l.length) (h0 : 65536 < be4 l) :
    Calls Tryd.prog 39 #[.pointer (some ⟨r, 0, none⟩)] w fun ev w' => ev = .returned (.tuple #[.string .empty, .iface 82 (.agg #[.int .i64 3])]) ∧ w = w' := by
  obtain ⟨v, h1, h2, h3⟩ := h
  obtain ⟨b, off, c, a0, a1, a2, a3, x1, x2, rfl, hlc, hcm, _, c0, c1, c2, c3, o0, o1, o2, o3, b0, b1, b2, b3, b4, b5⟩ := head_at h2 hl
  have hc : w.cell? ⟨r, 0, none⟩ = some (.slice (some ⟨b, off, none⟩) l.length c) := by rw [cell_at h1]; rfl
  have hl' : ¬ (l.length : Int) < 4 := by omega
  have hrl := lt_at h1
  have hb := be4_lt l
  obtain ⟨k, hk⟩ : ∃ k, be4 l = k := ⟨_, rfl⟩
  rw [hk] at o3 h0 hb
  have h0' : (65536 : Int) < k := by omega
  have hz : ((k : Int) == 0) = false := by simp; omega
  unfold maxLen at hcm
  clear h1 h2 h3 hk
  go_enter Tryd.func39, Tryd.ntmps39
  go_wp2_with fail
  refine wp_loop_rounds 5 ?_
  rw [rounds_succ]; go_wp2_with fail
  rw [rounds_succ]; go_wp2_with fail
  rw [rounds_succ]; go_wp2_with fail
  rw [rounds_succ]; go_wp2_with fail
  rw [rounds_succ]; go_wp2_with fail
  go_ret2
  exact ⟨rfl, rfl⟩
set_option maxRecDepth 100000 in
set_option maxHeartbeats 1000000 in
theorem next_wait {w : World} {F : Nat → Prop} {r : Nat} {l : Bs} {e : Int} (h : Rd w F r l e) (g : Glob w) (hl : 4 ≤ l.length) (h0 : be4 l ≠ 0) (h4 : be4 l ≤ 65536) (h5 : l.length < 4 + be4 l) :
    Calls Tryd.prog 39 #[.pointer (some ⟨r, 0, none⟩)] w (ShortOut w) := by
  obtain ⟨ga, hga⟩ := g.es
  obtain ⟨v, h1, h2, h3⟩ := h
  obtain ⟨b, off, c, a0, a1, a2, a3, x1, x2, rfl, hlc, hcm, _, c0, c1, c2, c3, o0, o1, o2, o3, b0, b1, b2, b3, b4, b5⟩ := head_at h2 hl
  have hc : w.cell? ⟨r, 0, none⟩ = some (.slice (some ⟨b, off, none⟩) l.length c) := by rw [cell_at h1]; rfl
  have hl' : ¬ (l.length : Int) < 4 := by omega
  have hrl := lt_at h1
  obtain ⟨k, hk⟩ : ∃ k, be4 l = k := ⟨_, rfl⟩
  rw [hk] at o3 h0 h4 h5
  have h4' : ¬ (65536 : Int) < k := by omega
  have hz : ((k : Int) == 0) = false := by simp; omega
  have h5' : (l.length : Int) < 4 + k := by omega
  unfold maxLen at hcm
  clear h1 h2 h3 hk g
  go_enter Tryd.func39, Tryd.ntmps39
  go_wp2_with fail
  refine wp_loop_rounds 5 ?_
  rw [rounds_succ]; go_wp2_with fail
  rw [rounds_succ]; go_wp2_with fail
  rw [rounds_succ]; go_wp2_with fail
  rw [rounds_succ]; go_wp2_with fail
  rw [rounds_succ]; go_wp2_with fail
  go_quiet (fail)
  go_wp2_with fail
  go_ret2
  exact ⟨ga, rfl, (Keeps.refl _ _).drewN _⟩
/-- a message is told; the buffer stands behind it -/
def MsgOut (w : World) (F : Nat → Prop) (r : Nat) (l : Bs) (e : Int) (ev : Ending) (w' : World) : Prop :=
  ev = .returned (.tuple #[sV ((l.drop 4).take (be4 l)), .nilIface]) ∧ Rd w' F r (l.drop (4 + be4 l)) e ∧ Keeps F w w'
set_option maxRecDepth 100000 in
set_option maxHeartbeats 1000000 in
theorem next_msg {w : World} {F : Nat → Prop} {r : Nat} {l : Bs} {e : Int} (h : Rd w F r l e) (h0 : be4 l ≠ 0) (h4 : be4 l ≤ 65536) (h5 : 4 + be4 l ≤ l.length) :
    Calls Tryd.prog 39 #[.pointer (some ⟨r, 0, none⟩)] w (MsgOut w F r l e) := by
  have hl : 4 ≤ l.length := by omega
  obtain ⟨v, h1, h2, h3⟩ := h
  obtain ⟨b, off, c, a0, a1, a2, a3, x1, x2, rfl, hlc, hcm, hcs, c0, c1, c2, c3, o0, o1, o2, o3, b0, b1, b2, b3, b4, b5⟩ := head_at h2 hl
  have hc : w.cell? ⟨r, 0, none⟩ = some (.slice (some ⟨b, off, none⟩) l.length c) := by rw [cell_at h1]; rfl
  have hl' : ¬ (l.length : Int) < 4 := by omega
  have hrl := lt_at h1
  have hne := row_ne h2 h1 (by decide)
  have hcv : ∀ cap', (convert 41 9 (.slice (some ⟨b, off + 4, none⟩) (be4 l) cap')).run Tryd.prog w = .ok (sV ((l.drop 4).take (be4 l))) w := by
    intro cap'
    have hlen : ((l.drop 4).take (be4 l)).length = be4 l := by rw [List.length_take, List.length_drop]; omega
    have := run_convert_bytes_arg (P := Tryd.prog) w 41 5 Tryd.underlying41 Tryd.underlying5 b (off + 4) (be4 l) cap' (((l.drop 4).take (be4 l)).map fun b => (b.toNat : Int)) (by rw [List.length_map, hlen]) (fun i hi => by
      rw [Nat.add_assoc, hcs (4 + i) (by omega), List.getD_eq_getElem?_getD, List.getElem?_map, List.getElem?_take, if_pos hi, List.getElem?_drop, List.getElem?_eq_getElem (by omega)]
      rfl) 9 Tryd.underlying9
    rw [strOfNums_mk] at this
    exact this
  have hrow : ∀ a, (a = some ⟨b, off, none⟩ ∧ 4 + be4 l = c ∨ a = some ⟨b, off + (4 + be4 l), none⟩) → RowAt w 5 (.slice a (l.length - (4 + be4 l)) (c - (4 + be4 l))) ((l.drop (4 + be4 l)).map uV) := fun a ha => by
    rw [List.map_drop]; exact h2.cut h5 ha
  have hfin : ∀ a, (a = some ⟨b, off, none⟩ ∧ 4 + be4 l = c ∨ a = some ⟨b, off + (4 + be4 l), none⟩) → ∀ ev, ev = .returned (.tuple #[sV ((l.drop 4).take (be4 l)), .nilIface]) → MsgOut w F r l e ev (w.setCell ⟨r, 0, none⟩ (.slice a (l.length - (4 + be4 l)) (c - (4 + be4 l)))) := by
    intro a ha ev hev
    have hob : (Value.slice a (l.length - (4 + be4 l)) (c - (4 + be4 l))).ownBlock = some b := by rcases ha with ⟨rfl, _⟩ | rfl <;> rfl
    refine ⟨hev, ⟨_, by rw [block_same h1]; rfl, (hrow a ha).of_same fun k hk => block_other _ _ _ _ fun e => ?_, fun x => ?_⟩, (Keeps.refl _ _).setCell (fun _ => (h3 r).2 (.inl rfl)) _⟩
    · rw [hob] at hk; subst e; exact hne hk
    · rw [h3 x, hob]; rfl
  have HF := Lib.hid hfin
  have hfr := free_at h1 0
  obtain ⟨k, hk⟩ : ∃ k, be4 l = k := ⟨_, rfl⟩
  obtain ⟨m, hm⟩ : ∃ m, sV ((l.drop 4).take (be4 l)) = m := ⟨_, rfl⟩
  rw [hm] at hcv HF
  rw [hk] at o3 h0 h4 h5 hcv HF
  have h4' : ¬ (65536 : Int) < k := by omega
  have hz : ((k : Int) == 0) = false := by simp; omega
  have h5' : ¬ (l.length : Int) < 4 + k := by omega
  have y1 : (4 + (k : Int)).toNat = 4 + k := by omega
  have y2 : (4 : Int) + k ≤ c := by omega
  have y3 : (4 : Int) + k ≤ l.length := by omega
  have y5 : ¬ c = 4 := by omega
  unfold maxLen at hcm
  clear h1 h2 h3 hk hm hrow hfin hcs hne
  go_enter Tryd.func39, Tryd.ntmps39
  go_wp2_with fail
  refine wp_loop_rounds 5 ?_
  rw [rounds_succ]; go_wp2_with fail
  rw [rounds_succ]; go_wp2_with fail
  rw [rounds_succ]; go_wp2_with fail
  rw [rounds_succ]; go_wp2_with fail
  rw [rounds_succ]; go_wp2_with fail
  · go_ret2
    have hF := HF.out (some ⟨b, off, none⟩) (.inl ⟨rfl, by omega⟩) _ rfl
    rw [show c - (4 + k) = 0 from by omega] at hF
    exact hF
  · go_ret2
    exact HF.out _ (.inr rfl) _ rfl
end Go.Proofs.YtfijpnhnlpgkgaaDoor
