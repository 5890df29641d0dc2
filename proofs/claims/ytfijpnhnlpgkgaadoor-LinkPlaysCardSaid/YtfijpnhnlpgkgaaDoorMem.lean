/-
  Memory that is written in some blocks alone ('Keeps F w w''), slices of one-cell elements in memory ('RowAt': nil, or a piece of a block), and append onto them from a slice, nil or a string.
  Conditions: what the slice holds behind the append takes at most 2^47 bytes.
-/
import Derived.WalkKit
import Derived.WalkSpells
import Derived.WalkLawsBesides
import Derived.Deep.AppendSrc
import Derived.Deep.Upon
import Derived.Lib.Hide
import Derived.Test.YtfijpnhnlpgkgaaDoorProg
namespace Go.Proofs.YtfijpnhnlpgkgaaDoor
open Go.RowKit
/-- Beside the blocks of F all that was there is as it was. -/
structure Keeps (F : Nat → Prop) (w w' : World) : Prop where
  os : w'.os = w.os
  tape : w'.tape = w.tape
  output : w'.output = w.output
  size : w.heap.size ≤ w'.heap.size
  block : ∀ k, k < w.heap.size → ¬ F k → w'.heap[k]? = w.heap[k]?

theorem Keeps.refl (F : Nat → Prop) (w : World) : Keeps F w w := ⟨rfl, rfl, rfl, Nat.le_refl _, fun _ _ _ => rfl⟩
theorem Keeps.mono {F G : Nat → Prop} {w w' : World} (h : Keeps F w w') (hs : ∀ k, k < w.heap.size → F k → G k) : Keeps G w w' :=
  ⟨h.os, h.tape, h.output, h.size, fun k hk hn => h.block k hk fun hf => hn (hs k hk hf)⟩
/-- two steps: what the second may write was new, or may be written anyway -/
theorem Keeps.trans' {F G : Nat → Prop} {a b c : World} (h : Keeps F a b) (k : Keeps G b c) (hs : ∀ i, i < a.heap.size → G i → F i) : Keeps F a c :=
  ⟨k.os.trans h.os, k.tape.trans h.tape, k.output.trans h.output, Nat.le_trans h.size k.size,
    fun i hi hn => (k.block i (Nat.lt_of_lt_of_le hi h.size) fun g => hn (hs i hi g)).trans (h.block i hi hn)⟩
theorem Keeps.trans {F : Nat → Prop} {a b c : World} (h : Keeps F a b) (k : Keeps F b c) : Keeps F a c := h.trans' k fun _ _ h => h
theorem Keeps.drew {F : Nat → Prop} {a w : World} (h : Keeps F a w) : Keeps F a w.drew := ⟨h.os, h.tape, h.output, h.size, h.block⟩
theorem Keeps.drewN {F : Nat → Prop} {a w : World} (h : Keeps F a w) (n : Nat) : Keeps F a (w.drewN n) := ⟨h.os, h.tape, h.output, h.size, h.block⟩
theorem Keeps.alloc {F : Nat → Prop} {a w : World} (h : Keeps F a w) (o : Obj) : Keeps F a (w.alloc o) :=
  h.trans ⟨rfl, rfl, rfl, by simp, fun k hk _ => Below.heap_alloc w o k hk⟩
theorem Keeps.setCell {F : Nat → Prop} {a w : World} (h : Keeps F a w) {p : Addr} (hp : p.block < a.heap.size → F p.block) (u : Value) : Keeps F a (w.setCell p u) :=
  h.trans' (G := fun b => b = p.block) ⟨rfl, rfl, rfl, by simp [World.setCell], fun k _ hn => Below.heap_setCell _ _ _ _ hn⟩ fun i hi e => by subst e; exact hp hi
theorem Keeps.grown {F : Nat → Prop} {a w w' : World} {row : Option Nat} (h : Keeps F a w) (hg : w.grownBy w' row) (hr : ∀ k, row = some k → k < a.heap.size → F k) : Keeps F a w' :=
  h.trans' (G := fun b => row = some b) ⟨hg.os, hg.tape, hg.output, hg.size, fun k hk hn => hg.block k hk fun e => hn e.symm⟩ fun i hi e => hr i e hi
theorem Keeps.below {F : Nat → Prop} {w w' : World} (h : Keeps F w w') (hF : ∀ k, k < w.heap.size → ¬ F k) : Below w.heap.size w w' :=
  ⟨h.os, h.tape, h.output, h.size, fun k hk => h.block k hk (hF k hk)⟩

theorem block_setCell (w : World) (b o : Nat) (v : Value) (k : Nat) : (w.setCell ⟨b, o, none⟩ v).heap[k]? =
    if k = b then (w.heap[b]?).map (fun x => match x with | .cells c e fr => .cells (c.setIfInBounds o v) e fr | y => y) else w.heap[k]? := by
  by_cases h : k = b
  · subst h
    simp only [World.setCell, Array.getElem?_modify, if_pos]
    rfl
  · rw [if_neg h]; exact Below.heap_setCell _ _ _ _ h
theorem block_same {w : World} {b : Nat} {c : Array Value} {e : TypeId} {fr : Nat × Nat} (h : w.heap[b]? = some (.cells c e fr)) (o : Nat) (v : Value) :
    (w.setCell ⟨b, o, none⟩ v).heap[b]? = some (.cells (c.setIfInBounds o v) e fr) := by rw [block_setCell, if_pos rfl, h]; rfl
theorem block_other (w : World) (b o : Nat) (v : Value) {k : Nat} (h : k ≠ b) : (w.setCell ⟨b, o, none⟩ v).heap[k]? = w.heap[k]? := Below.heap_setCell _ _ _ _ h
theorem cell_at {w : World} {b : Nat} {c : Array Value} {e : TypeId} {fr : Nat × Nat} (h : w.heap[b]? = some (.cells c e fr)) (o : Nat) : w.cell? ⟨b, o, none⟩ = c[o]? := by
  simp [World.cell?, h]
theorem free_at {w : World} {b : Nat} {c : Array Value} {e : TypeId} (h : w.heap[b]? = some (.cells c e (0, 0))) (o : Nat) : w.frozen? ⟨b, o, none⟩ = false := by
  simp [World.frozen?, h]
theorem lt_at {w : World} {b : Nat} {o : Obj} (h : w.heap[b]? = some o) : b < w.heap.size := (Array.getElem?_eq_some_iff.1 h).1

/-- v is a slice of one-cell elements that reads xs: nil, or a piece of a block that may be written. -/
def RowAt (w : World) (e : TypeId) (v : Value) (xs : List Value) : Prop :=
  (v = .slice none 0 0 ∧ xs = []) ∨ ∃ b off c cur, v = .slice (some ⟨b, off, none⟩) xs.length c ∧ w.heap[b]? = some (.cells cur e (0, 0)) ∧ xs.length ≤ c ∧ c ≤ maxLen ∧ off + c ≤ cur.size ∧ (cur.toList.drop off).take xs.length = xs
section
variable {w w' : World} {e : TypeId} {v : Value} {xs : List Value}
theorem RowAt.nil (w : World) (e : TypeId) : RowAt w e (.slice none 0 0) [] := .inl ⟨rfl, rfl⟩
theorem RowAt.lt (h : RowAt w e v xs) {k : Nat} (hk : v.ownBlock = some k) : k < w.heap.size := by
  rcases h with ⟨rfl, _⟩ | ⟨b, off, c, cur, rfl, hb, _⟩
  · cases hk
  · simp only [Value.ownBlock, Option.some.injEq] at hk; subst hk; exact lt_at hb
theorem RowAt.of_same (h : RowAt w e v xs) (hb : ∀ k, v.ownBlock = some k → w'.heap[k]? = w.heap[k]?) : RowAt w' e v xs := by
  rcases h with h | ⟨b, off, c, cur, hv, hh, r⟩
  · exact .inl h
  · exact .inr ⟨b, off, c, cur, hv, (hb b (by rw [hv]; rfl)).trans hh, r⟩
theorem RowAt.keeps (h : RowAt w e v xs) {F : Nat → Prop} (k : Keeps F w w') (hF : ∀ b, v.ownBlock = some b → ¬ F b) : RowAt w' e v xs :=
  h.of_same fun b hb => k.block b (h.lt hb) (hF b hb)
theorem RowAt.val (h : RowAt w e v xs) : ∃ a c, v = .slice a xs.length c := by
  rcases h with ⟨h1, h2⟩ | ⟨b, off, c, cur, h1, _⟩
  · exact ⟨none, 0, by rw [h1, h2]; rfl⟩
  · exact ⟨_, _, h1⟩
theorem row_elem {xs : List Value} {cur : Array Value} {off : Nat} (ht : (cur.toList.drop off).take xs.length = xs) {i : Nat} (hi : i < xs.length) : cur[off + i]? = some xs[i] := by
  have h1 : ((cur.toList.drop off).take xs.length)[i]? = cur.toList[off + i]? := by rw [List.getElem?_take, if_pos hi, List.getElem?_drop]
  rw [ht] at h1
  simp only [Array.getElem?_toList] at h1
  rw [← h1, List.getElem?_eq_getElem hi]
/-- its cells -/
theorem RowAt.cells (h : RowAt w e v xs) (h0 : 0 < xs.length) : ∃ b off c, v = .slice (some ⟨b, off, none⟩) xs.length c ∧ xs.length ≤ c ∧ c ≤ maxLen ∧ ∀ i (hi : i < xs.length), w.cell? ⟨b, off + i, none⟩ = some xs[i] := by
  rcases h with ⟨_, h2⟩ | ⟨b, off, c, cur, h1, hb, h2, h3, h4, h5⟩
  · subst h2; simp at h0
  · exact ⟨b, off, c, h1, h2, h3, fun i hi => by rw [cell_at hb]; exact row_elem h5 hi⟩
theorem RowAt.src {P : Program} {tx e' : TypeId} (hk : P.underlying tx = some (.slice e')) (h : RowAt w e v xs) (h1 : ∀ u ∈ xs, u.oneCell' = true) : Src P 1 tx v xs.length xs w := by
  rcases Nat.eq_zero_or_pos xs.length with h0 | h0
  · have hx : xs = [] := List.eq_nil_of_length_eq_zero h0
    subst hx
    rcases h with ⟨rfl, _⟩ | ⟨b, off, c, cur, rfl, _⟩
    · exact Src.ofNil w hk 0
    · exact Src.ofSlice w hk _ 0 c [] rfl (by simp) (by simp)
  · obtain ⟨b, off, c, rfl, _, _, hc⟩ := h.cells h0
    refine Src.ofSlice w hk _ _ c xs (by simp) (fun j u hu => ?_) h1
    obtain ⟨hj, e⟩ := List.getElem?_eq_some_iff.1 hu
    have := hc j hj
    rw [e] at this
    have hadd : (⟨b, off, none⟩ : Addr).add j = ⟨b, off + j, none⟩ := by unfold Addr.add; split <;> simp_all
    rw [hadd]; exact this
end
theorem block_setCells (b : Nat) (e : TypeId) : ∀ (vs : List Value) (o : Nat) (w : World) (cur : Array Value), w.heap[b]? = some (.cells cur e (0, 0)) → o + vs.length ≤ cur.size →
    ∃ cur', (w.setCells b o vs).heap[b]? = some (.cells cur' e (0, 0)) ∧ cur'.size = cur.size ∧ cur'.toList = cur.toList.take o ++ vs ++ cur.toList.drop (o + vs.length)
  | [], o, w, cur, h, _ => ⟨cur, h, rfl, by simp⟩
  | v :: vs, o, w, cur, h, hl => by
    simp only [List.length_cons] at hl
    obtain ⟨c2, h2, h3, h4⟩ := block_setCells b e vs (o + 1) (w.setCell ⟨b, o, none⟩ v) (cur.setIfInBounds o v) (block_same h o v) (by simp; omega)
    refine ⟨c2, h2, by simpa using h3, ?_⟩
    rw [h4]
    simp only [Array.toList_setIfInBounds, List.length_cons]
    have ho : o < cur.toList.length := by simp; omega
    have e1 : (cur.toList.set o v).take (o + 1) = cur.toList.take o ++ [v] := by
      rw [List.set_eq_take_append_cons_drop, if_pos ho, List.take_append, List.length_take, Nat.min_eq_left (by omega), List.take_take]
      simp
    have e2 : (cur.toList.set o v).drop (o + 1 + vs.length) = cur.toList.drop (o + 1 + vs.length) := by
      rw [List.drop_set_of_lt (by omega)]
    rw [e1, e2]
    simp [Nat.add_assoc, Nat.add_comm 1]
theorem size_setCells' (b : Nat) : ∀ (vs : List Value) (o : Nat) (w : World), (w.setCells b o vs).heap.size = w.heap.size
  | [], _, _ => rfl
  | v :: vs, o, w => by
    show ((w.setCell ⟨b, o, none⟩ v).setCells b (o + 1) vs).heap.size = _
    rw [size_setCells' b vs]; simp
theorem tape_setCells' (b : Nat) : ∀ (vs : List Value) (o : Nat) (w : World), (w.setCells b o vs).tape = w.tape
  | [], _, _ => rfl
  | v :: vs, o, w => by
    show ((w.setCell ⟨b, o, none⟩ v).setCells b (o + 1) vs).tape = _
    rw [tape_setCells' b vs]; rfl
theorem other_setCells' (b : Nat) : ∀ (vs : List Value) (o : Nat) (w : World) (k : Nat), k ≠ b → (w.setCells b o vs).heap[k]? = w.heap[k]?
  | [], _, _, _, _ => rfl
  | v :: vs, o, w, k, hk => by
    show ((w.setCell ⟨b, o, none⟩ v).setCells b (o + 1) vs).heap[k]? = _
    rw [other_setCells' b vs _ _ _ hk, block_other _ _ _ _ hk]
theorem keeps_setCells (b o : Nat) (vs : List Value) (w : World) : Keeps (fun k => k = b) w (w.setCells b o vs) :=
  ⟨World.os_setCells w b o vs, tape_setCells' b vs o w, World.output_setCells w b o vs, by rw [size_setCells']; exact Nat.le_refl _, fun k _ hn => other_setCells' b vs o w k hn⟩
/-- append: the slice reads what it read, and what comes; its row is the old one, or a new one. -/
theorem run_app_row {P : Program} (w : World) (t tx ty : TypeId)
    (e : TypeId) (i : TypeInfo) (z : Value) (bytes : Nat) (ht : P.underlying t = some (.slice e)) (hi : P.info? e = some i) (hz : i.zero = some z)
    (hsize : i.size = 1) (hby : i.bytes = bytes) (hzs : z.cells.size = 1)
    (v : Value) (xs : List Value) (hown : RowAt w e v xs) (x : Value) (m : Nat) (news : List Value) (hs : Src P 1 tx x m news w)
    (h63 : xs.length + m ≤ maxLen) (hbytes : (xs.length + m) * bytes ≤ 140737488355328) :
    ∃ v' w', (Builtin.append_ #[t, tx] ty #[v, x]).run P w = .ok v' w' ∧ RowAt w' e v' (xs ++ news) ∧ Keeps (fun k => v.ownBlock = some k) w w' ∧ (∀ k, v'.ownBlock = some k → v.ownBlock = some k ∨ w.heap.size ≤ k) := by
  have hnl : news.length = m := by simpa using hs.newsLen
  have hs' : Src P i.size tx x m news w := by rw [hsize]; exact hs
  have hsmall : ((xs.length + m : Nat) : Int) ≤ 9223372036854775807 := by simp only [maxLen] at h63; omega
  have grown : ∀ old, old < xs.length + m → RowAt (w.drew.alloc (.cells ((xs ++ news).toArray ++ Builtin.zeroCells z.cells (grownCap w (xs.length + m) old e - (xs.length + m))) e)) e (.slice (some ⟨w.heap.size, 0, none⟩) (xs.length + m) (grownCap w (xs.length + m) old e)) (xs ++ news) := by
    intro old ho
    have hge := grownCap_ge w (xs.length + m) old e
    refine .inr ⟨w.heap.size, 0, _, _, by rw [List.length_append, hnl], heap_alloc_new w.drew _, by rw [List.length_append, hnl]; exact hge, grownCap_le_maxLen w _ old e h63, ?_, ?_⟩
    · simp only [Array.size_append, List.size_toArray, size_zeroCells, hzs, List.length_append, hnl]; omega
    · simp only [Array.toList_append, List.drop_zero]
      exact List.take_left
  by_cases hm : m = 0
  · have hn0 : news = [] := List.eq_nil_of_length_eq_zero (by omega)
    subst hm; subst hn0
    obtain ⟨a, c, hv⟩ := hown.val
    have hle : xs.length ≤ c := by
      rcases hown with ⟨h1, h2⟩ | ⟨b, off, c', cur, h1, _, h2, _⟩
      · rw [h2]; exact Nat.zero_le _
      · rw [hv] at h1; simp only [Value.slice.injEq] at h1; omega
    refine ⟨v, w, by rw [hv]; exact run_append_nothing w t tx ty e i ht hi a _ _ hle x hs', by rw [List.append_nil]; exact hown, Keeps.refl _ _, fun k hk => .inl hk⟩
  rcases hown with ⟨rfl, rfl⟩ | ⟨b, off, c, cur, rfl, hb, hn, hcm, hoc, htk⟩
  · have hr := run_append_grow_src (P := P) w t tx ty e i z ht hi hz none 0 0 [] (run_firstCells_none w.drew i.size 0 0 0) x m news hs' (by omega) (by simpa using hsmall) (growslice_fits (by omega) (by rw [hby]; simpa using hbytes))
    have hg := grown 0 (by simp; omega)
    simp only [List.length_nil, Nat.zero_add] at hr hg
    refine ⟨_, _, hr, hg, ((Keeps.refl _ _).drew).alloc _, fun k hk => .inr ?_⟩
    simp only [Value.ownBlock, Option.some.injEq] at hk; omega
  · by_cases hroom : xs.length + m ≤ c
    · have hr := run_append_room_src (P := P) w t tx ty e i ht hi b off xs.length c x m news hs' hroom
        (fun j hj => by rw [cell_at hb]; simp [hsize]; omega) (fun j hj => free_at hb _)
      rw [hsize, Nat.mul_one] at hr
      obtain ⟨cur', h1, h2, h3⟩ := block_setCells b e news (off + xs.length) w cur hb (by omega)
      refine ⟨_, _, hr, .inr ⟨b, off, c, cur', by rw [List.length_append, hnl], h1, by rw [List.length_append, hnl]; exact hroom, hcm, by omega, ?_⟩, (keeps_setCells b _ news w).mono (fun k _ e => by rw [e]; rfl), fun k hk => .inl hk⟩
      rw [h3, List.length_append]
      have hoff : off ≤ cur.toList.length := by simp; omega
      rw [List.append_assoc, List.drop_append_of_le_length (by simp; omega)]
      have e1 : (cur.toList.take (off + xs.length)).drop off = xs := by rw [List.drop_take, Nat.add_sub_cancel_left]; exact htk
      rw [e1, ← List.append_assoc, ← List.length_append]
      exact List.take_left
    · have hr := run_append_grow_src (P := P) w t tx ty e i z ht hi hz (some ⟨b, off, none⟩) xs.length c xs
        (run_firstCells_some w.drew i.size xs.length _ _ _ xs (by rw [hsize, Nat.mul_one]) (fun j u hu => by
          obtain ⟨hj, e1⟩ := List.getElem?_eq_some_iff.1 hu
          have hadd : (⟨b, off, none⟩ : Addr).add j = ⟨b, off + j, none⟩ := by unfold Addr.add; split <;> simp_all
          rw [hadd]
          show w.cell? _ = _
          rw [cell_at hb, ← e1]
          exact row_elem htk hj)) x m news hs' (by omega) hsmall (growslice_fits (by omega) (by rw [hby]; exact hbytes))
      have hg := grown c (by omega)
      refine ⟨_, _, hr, hg, ((Keeps.refl _ _).drew).alloc _, fun k hk => .inr ?_⟩
      simp only [Value.ownBlock, Option.some.injEq] at hk; omega
/-- the same at the operation -/
theorem wpList_app_row {P : Program} {w : World} {ops : Array Oper} {rest : List Oper} {o : Oper} {a : Act} {Q : Exit → Act → World → Prop} (hgd : o.guard = none) (s x : Operand) (t tx : TypeId)
    (ho : o.op = .call { callee := .builtin .append, args := #[s, x], argTypes := #[t, tx] })
    (e : TypeId) (i : TypeInfo) (z : Value) (bytes : Nat) (ht : P.underlying t = some (.slice e)) (hi : P.info? e = some i) (hz : i.zero = some z)
    (hsize : i.size = 1) (hby : i.bytes = bytes) (hzs : z.cells.size = 1)
    (v : Value) (xs : List Value) (hs : a.eval s = v) (hown : RowAt w e v xs)
    (xv : Value) (m : Nat) (news : List Value) (hx : a.eval x = xv) (hsrc : Src P 1 tx xv m news w)
    (h63 : xs.length + m ≤ maxLen) (hbytes : (xs.length + m) * bytes ≤ 140737488355328)
    (h : ∀ v' w', RowAt w' e v' (xs ++ news) → Keeps (fun k => v.ownBlock = some k) w w' → (∀ k, v'.ownBlock = some k → v.ownBlock = some k ∨ w.heap.size ≤ k) → wpList P ops Q rest (a.put o.dst v') w') : wpList P ops Q (o :: rest) a w := by
  refine wpList_plain hgd fun _ hK => ?_
  obtain ⟨v', w', hr, h2, h3, h4⟩ := run_app_row w t tx o.type e i z bytes ht hi hz hsize hby hzs v xs hown xv m news hsrc h63 hbytes
  unfold Oper.wp execOp
  simp only [ho, resolve, invoke, builtin, Sem.run_bind, Sem.run_pure, Result.andThen_ok, List.map_toArray, List.map_cons, List.map_nil, hs, hx, hr]
  exact hK _ _ (h v' w' h2 h3 h4)


section
variable {w w' : World} {e : TypeId} {v : Value} {xs : List Value}
theorem addr_add_lit (b off j : Nat) : (⟨b, off, none⟩ : Addr).add j = ⟨b, off + j, none⟩ := by unfold Addr.add; split <;> simp_all
theorem RowAt.cap (h : RowAt w e v xs) : ∃ a c, v = .slice a xs.length c ∧ xs.length ≤ c := by
  rcases h with ⟨h1, h2⟩ | ⟨b, off, c, cur, h1, _, h2, _⟩
  · exact ⟨none, 0, by rw [h1, h2]; rfl, by rw [h2]; simp⟩
  · exact ⟨_, _, h1, h2⟩
/-- what stands behind the first k -/
theorem RowAt.cut {b off m c k : Nat} (h : RowAt w e (.slice (some ⟨b, off, none⟩) m c) xs) (hk : k ≤ m) {a : Option Addr} (ha : a = some ⟨b, off, none⟩ ∧ k = c ∨ a = some ⟨b, off + k, none⟩) :
    RowAt w e (.slice a (m - k) (c - k)) (xs.drop k) := by
  rcases h with ⟨h1, _⟩ | ⟨b', off', c', cur, h1, h2, h3, h4, h5, h6⟩
  · cases h1
  · simp only [Value.slice.injEq, Option.some.injEq, Addr.mk.injEq, and_true] at h1
    obtain ⟨⟨rfl, rfl⟩, rfl, rfl⟩ := h1
    have hl : (xs.drop k).length = xs.length - k := List.length_drop
    rcases ha with ⟨rfl, rfl⟩ | rfl
    · obtain rfl : k = xs.length := by omega
      rw [List.drop_length]
      exact .inr ⟨b, off, 0, cur, by simp, h2, by simp, by omega, by omega, by simp⟩
    · refine .inr ⟨b, off + k, c - k, cur, by rw [hl], h2, by omega, by omega, by omega, ?_⟩
      rw [hl]
      conv => rhs; rw [← h6]
      rw [List.drop_take, List.drop_drop]
end
end Go.Proofs.YtfijpnhnlpgkgaaDoor
