/-
  Slices in memory whose elements take sz cells each (nil, or a piece of a block), and append onto them from a slice or nil.
  Conditions: what the slice holds behind the append takes at most 2^47 bytes.
-/
import Derived.Test.YtfecgibdhglhiaaRow
namespace Go.Proofs.Ytfecgibdhglhiaa
open Go.RowKit
/-- v is a slice of m elements of sz cells that reads xs: nil, or a piece of a block that may be written. -/
def RowN (w : World) (e : TypeId) (sz : Nat) (v : Value) (m : Nat) (xs : List Value) : Prop :=
  xs.length = m * sz ∧ ((v = .slice none 0 0 ∧ m = 0) ∨ ∃ b off c cur, v = .slice (some ⟨b, off, none⟩) m c ∧ w.heap[b]? = some (.cells cur e (0, 0)) ∧ m ≤ c ∧ c ≤ maxLen ∧ off + c * sz ≤ cur.size ∧ (cur.toList.drop off).take xs.length = xs)
section
variable {w w' : World} {e : TypeId} {sz : Nat} {v : Value} {m : Nat} {xs : List Value}
theorem RowN.nil (w : World) (e : TypeId) (sz : Nat) : RowN w e sz (.slice none 0 0) 0 [] := ⟨by simp, .inl ⟨rfl, rfl⟩⟩
theorem RowN.len (h : RowN w e sz v m xs) : xs.length = m * sz := h.1
theorem RowN.lt (h : RowN w e sz v m xs) {k : Nat} (hk : v.ownBlock = some k) : k < w.heap.size := by
  rcases h.2 with ⟨rfl, _⟩ | ⟨b, off, c, cur, rfl, hb, _⟩
  · cases hk
  · simp only [Value.ownBlock, Option.some.injEq] at hk; subst hk; exact lt_at hb
theorem RowN.of_same (h : RowN w e sz v m xs) (hb : ∀ k, v.ownBlock = some k → w'.heap[k]? = w.heap[k]?) : RowN w' e sz v m xs := by
  refine ⟨h.1, ?_⟩
  rcases h.2 with h | ⟨b, off, c, cur, hv, hh, r⟩
  · exact .inl h
  · exact .inr ⟨b, off, c, cur, hv, (hb b (by rw [hv]; rfl)).trans hh, r⟩
theorem RowN.keeps (h : RowN w e sz v m xs) {F : Nat → Prop} (k : Keeps F w w') (hF : ∀ b, v.ownBlock = some b → ¬ F b) : RowN w' e sz v m xs :=
  h.of_same fun b hb => k.block b (h.lt hb) (hF b hb)
theorem RowN.val (h : RowN w e sz v m xs) : ∃ a c, v = .slice a m c ∧ m ≤ c := by
  rcases h.2 with ⟨h1, h2⟩ | ⟨b, off, c, cur, h1, _, h2, _⟩
  · exact ⟨none, 0, by rw [h1, h2], by omega⟩
  · exact ⟨_, _, h1, h2⟩
/-- its cells -/
theorem RowN.cells (h : RowN w e sz v m xs) (h0 : 0 < m) : ∃ b off c, v = .slice (some ⟨b, off, none⟩) m c ∧ m ≤ c ∧ c ≤ maxLen ∧ b < w.heap.size ∧ ∀ i (hi : i < xs.length), w.cell? ⟨b, off + i, none⟩ = some xs[i] := by
  rcases h.2 with ⟨_, h2⟩ | ⟨b, off, c, cur, h1, hb, h2, h3, h4, h5⟩
  · omega
  · exact ⟨b, off, c, h1, h2, h3, lt_at hb, fun i hi => by rw [cell_at hb]; exact row_elem h5 hi⟩
theorem addr_add_lit (b off j : Nat) : (⟨b, off, none⟩ : Addr).add j = ⟨b, off + j, none⟩ := by unfold Addr.add; split <;> simp_all
/-- the first k of its elements, as what append takes -/
theorem RowN.srcTake {P : Program} {tx e' : TypeId} (hk : P.underlying tx = some (.slice e')) {b off c : Nat} (h : RowN w e sz (.slice (some ⟨b, off, none⟩) m c) m xs) (h1 : ∀ u ∈ xs, u.oneCell' = true) {k : Nat} (hkm : k ≤ m) :
    Src P sz tx (.slice (some ⟨b, off, none⟩) k c) k (xs.take (k * sz)) w := by
  have hl := h.1
  have hle : k * sz ≤ m * sz := Nat.mul_le_mul_right sz hkm
  refine Src.ofSlice w hk _ _ c _ (by rw [List.length_take]; omega) (fun j u hu => ?_) (fun u hu => h1 u (List.mem_of_mem_take hu))
  obtain ⟨hj, e⟩ := List.getElem?_eq_some_iff.1 hu
  rw [List.length_take] at hj
  obtain ⟨b', o', c', e1, _, _, _, hc⟩ := h.cells (by rcases Nat.eq_zero_or_pos m with h0 | h0; rw [h0, Nat.zero_mul] at hl; omega; exact h0)
  simp only [Value.slice.injEq, Option.some.injEq, Addr.mk.injEq, and_true, true_and] at e1
  obtain ⟨⟨rfl, rfl⟩, rfl⟩ := e1
  rw [addr_add_lit, hc j (by omega), ← e, List.getElem_take]
/-- those behind the first k -/
theorem RowN.srcDrop {P : Program} {tx e' : TypeId} (hk : P.underlying tx = some (.slice e')) {b off c : Nat} (h : RowN w e sz (.slice (some ⟨b, off, none⟩) m c) m xs) (h1 : ∀ u ∈ xs, u.oneCell' = true) {k : Nat} (hkm : k ≤ m) {a : Option Addr} (ha : a = some ⟨b, off, none⟩ ∧ k = c ∨ a = some ⟨b, off + k * sz, none⟩) :
    Src P sz tx (.slice a (m - k) (c - k)) (m - k) (xs.drop (k * sz)) w := by
  have hl := h.1
  have hle : k * sz ≤ m * sz := Nat.mul_le_mul_right sz hkm
  have hmc : m ≤ c := by obtain ⟨_, _, e1, h2⟩ := h.val; simp only [Value.slice.injEq, true_and] at e1; omega
  rcases ha with ⟨rfl, rfl⟩ | rfl
  · obtain rfl : k = m := by omega
    rw [show xs.drop (k * sz) = [] from List.drop_eq_nil_iff.2 (by omega), Nat.sub_self]
    exact Src.ofSlice w hk _ _ _ [] (by simp) (by simp) (by simp)
  · refine Src.ofSlice w hk _ _ _ _ (by rw [List.length_drop, hl, Nat.sub_mul]) (fun j u hu => ?_) (fun u hu => h1 u (List.mem_of_mem_drop hu))
    obtain ⟨hj, e⟩ := List.getElem?_eq_some_iff.1 hu
    rw [List.length_drop] at hj
    obtain ⟨b', o', c', e1, _, _, _, hc⟩ := h.cells (by rcases Nat.eq_zero_or_pos m with h0 | h0; rw [h0, Nat.zero_mul] at hl; omega; exact h0)
    simp only [Value.slice.injEq, Option.some.injEq, Addr.mk.injEq, and_true, true_and] at e1
    obtain ⟨⟨rfl, rfl⟩, rfl⟩ := e1
    rw [addr_add_lit, Nat.add_assoc, hc (k * sz + j) (by omega), ← e, List.getElem_drop]
/-- append: the slice reads what it read, and what comes; its row is the old one, or a new one. -/
theorem run_app_rowN {P : Program} (w : World) (t tx ty : TypeId)
    (e : TypeId) (i : TypeInfo) (z : Value) (bytes : Nat) (ht : P.underlying t = some (.slice e)) (hi : P.info? e = some i) (hz : i.zero = some z)
    (hsize : i.size = sz) (hby : i.bytes = bytes) (hzs : z.cells.size = sz)
    (v : Value) (m : Nat) (xs : List Value) (hown : RowN w e sz v m xs) (x : Value) (n : Nat) (news : List Value) (hs : Src P sz tx x n news w)
    (h63 : m + n ≤ maxLen) (hbytes : (m + n) * bytes ≤ 140737488355328) :
    ∃ v' w', (Builtin.append_ #[t, tx] ty #[v, x]).run P w = .ok v' w' ∧ RowN w' e sz v' (m + n) (xs ++ news) ∧ Keeps (fun k => v.ownBlock = some k) w w' ∧ (∀ k, v'.ownBlock = some k → v.ownBlock = some k ∨ w.heap.size ≤ k) := by
  have hnl : news.length = n * sz := hs.newsLen
  have hxl : xs.length = m * sz := hown.1
  have hal : (xs ++ news).length = (m + n) * sz := by rw [List.length_append, hnl, hxl, Nat.add_mul]
  have hs' : Src P i.size tx x n news w := by rw [hsize]; exact hs
  have hsmall : ((m + n : Nat) : Int) ≤ 9223372036854775807 := by simp only [maxLen] at h63; omega
  have grown : ∀ old, old < m + n → RowN (w.drew.alloc (.cells ((xs ++ news).toArray ++ Builtin.zeroCells z.cells (grownCap w (m + n) old e - (m + n))) e)) e sz (.slice (some ⟨w.heap.size, 0, none⟩) (m + n) (grownCap w (m + n) old e)) (m + n) (xs ++ news) := by
    intro old ho
    have hge := grownCap_ge w (m + n) old e
    refine ⟨hal, .inr ⟨w.heap.size, 0, _, _, rfl, heap_alloc_new w.drew _, hge, grownCap_le_maxLen w _ old e h63, ?_, ?_⟩⟩
    · simp only [Array.size_append, List.size_toArray, size_zeroCells, hzs, hal]
      have : (m + n) * sz + (grownCap w (m + n) old e - (m + n)) * sz = grownCap w (m + n) old e * sz := by rw [← Nat.add_mul]; congr 1; omega
      omega
    · simp only [Array.toList_append, List.drop_zero]
      exact List.take_left
  by_cases hm : n = 0
  · have hn0 : news = [] := List.eq_nil_of_length_eq_zero (by rw [hnl, hm]; simp)
    subst hm; subst hn0
    obtain ⟨a, c, hv, hle⟩ := hown.val
    refine ⟨v, w, by rw [hv]; exact run_append_nothing w t tx ty e i ht hi a _ _ hle x hs', by rw [List.append_nil]; exact hown, Keeps.refl _ _, fun k hk => .inl hk⟩
  rcases hown.2 with ⟨rfl, rfl⟩ | ⟨b, off, c, cur, rfl, hb, hn, hcm, hoc, htk⟩
  · have hx0 : xs = [] := List.eq_nil_of_length_eq_zero (by rw [hxl]; simp)
    subst hx0
    have hr := run_append_grow_src (P := P) w t tx ty e i z ht hi hz none 0 0 [] (run_firstCells_none w.drew i.size 0 0 0) x n news hs' (by omega) (by simpa using hsmall) (growslice_fits (by omega) (by rw [hby]; simpa using hbytes))
    have hg := grown 0 (by omega)
    refine ⟨_, _, hr, hg, ((Keeps.refl _ _).drew).alloc _, fun k hk => .inr ?_⟩
    simp only [Value.ownBlock, Option.some.injEq] at hk; omega
  · by_cases hroom : m + n ≤ c
    · have hmul : m * sz + n * sz ≤ c * sz := by rw [← Nat.add_mul]; exact Nat.mul_le_mul_right sz hroom
      have hr := run_append_room_src (P := P) w t tx ty e i ht hi b off m c x n news hs' hroom
        (fun j hj => by rw [cell_at hb, hsize]; simp; omega) (fun j hj => free_at hb _)
      rw [hsize] at hr
      obtain ⟨cur', h1, h2, h3⟩ := block_setCells b e news (off + m * sz) w cur hb (by omega)
      refine ⟨_, _, hr, ⟨hal, .inr ⟨b, off, c, cur', rfl, h1, hroom, hcm, by omega, ?_⟩⟩, (keeps_setCells b _ news w).mono (fun k _ e => by rw [e]; rfl), fun k hk => .inl hk⟩
      rw [h3, List.length_append, ← hxl]
      have hoff : off ≤ cur.toList.length := by simp; omega
      have hxo : off + xs.length ≤ cur.toList.length := by simp; omega
      rw [List.append_assoc, List.drop_append_of_le_length (by rw [List.length_take]; omega)]
      have e1 : (cur.toList.take (off + xs.length)).drop off = xs := by rw [List.drop_take, Nat.add_sub_cancel_left]; exact htk
      rw [e1, ← List.append_assoc, ← List.length_append]
      exact List.take_left
    · have hr := run_append_grow_src (P := P) w t tx ty e i z ht hi hz (some ⟨b, off, none⟩) m c xs
        (run_firstCells_some w.drew i.size m _ _ _ xs (by rw [hsize, hxl]) (fun j u hu => by
          obtain ⟨hj, e1⟩ := List.getElem?_eq_some_iff.1 hu
          rw [addr_add_lit]
          show w.cell? _ = _
          rw [cell_at hb, ← e1]
          exact row_elem htk hj)) x n news hs' (by omega) hsmall (growslice_fits (by omega) (by rw [hby]; exact hbytes))
      have hg := grown c (by omega)
      refine ⟨_, _, hr, hg, ((Keeps.refl _ _).drew).alloc _, fun k hk => .inr ?_⟩
      simp only [Value.ownBlock, Option.some.injEq] at hk; omega
/-- the same at the operation -/
theorem wpList_app_rowN {P : Program} {w : World} {ops : Array Oper} {rest : List Oper} {o : Oper} {a : Act} {Q : Exit → Act → World → Prop} (hgd : o.guard = none) (s x : Operand) (t tx : TypeId)
    (ho : o.op = .call { callee := .builtin .append, args := #[s, x], argTypes := #[t, tx] })
    (e : TypeId) (i : TypeInfo) (z : Value) (bytes : Nat) (ht : P.underlying t = some (.slice e)) (hi : P.info? e = some i) (hz : i.zero = some z)
    (hsize : i.size = sz) (hby : i.bytes = bytes) (hzs : z.cells.size = sz)
    (v : Value) (m : Nat) (xs : List Value) (hs : a.eval s = v) (hown : RowN w e sz v m xs)
    (xv : Value) (n : Nat) (news : List Value) (hx : a.eval x = xv) (hsrc : Src P sz tx xv n news w)
    (h63 : m + n ≤ maxLen) (hbytes : (m + n) * bytes ≤ 140737488355328)
    (h : ∀ v' w', RowN w' e sz v' (m + n) (xs ++ news) → Keeps (fun k => v.ownBlock = some k) w w' → (∀ k, v'.ownBlock = some k → v.ownBlock = some k ∨ w.heap.size ≤ k) → wpList P ops Q rest (a.put o.dst v') w') : wpList P ops Q (o :: rest) a w := by
  refine wpList_plain hgd fun _ hK => ?_
  obtain ⟨v', w', hr, h2, h3, h4⟩ := run_app_rowN w t tx o.type e i z bytes ht hi hz hsize hby hzs v m xs hown xv n news hsrc h63 hbytes
  unfold Oper.wp execOp
  simp only [ho, resolve, invoke, builtin, Sem.run_bind, Sem.run_pure, Result.andThen_ok, List.map_toArray, List.map_cons, List.map_nil, hs, hx, hr]
  exact hK _ _ (h v' w' h2 h3 h4)
end
end Go.Proofs.Ytfecgibdhglhiaa
