/-
  An array of two lists of texts in memory, apart from a link; what an append to one of them and a send, or a take, does to both.
  No condition. No walk.
-/
import Derived.Test.YtfijpnhnlpgkgaaDoorBytes8Walk
import Derived.Test.YtfijpnhnlpgkgaaDoorArgs
namespace Go.Proofs.YtfijpnhnlpgkgaaDoor
open Go.RowKit
def H2 (q : Nat) (v : Nat → Value) (b : Nat) : Prop := b = q ∨ ∃ k, k < 2 ∧ (v k).ownBlock = some b
/-- two lists of texts behind an array's block, made since w -/
structure Two (w : World) (q : Nat) (v : Nat → Value) (xs : Nat → List Bs) (W : World) : Prop where
  own : W.heap[q]? = some (.cells #[v 0, v 1] 51 (0, 0))
  row : ∀ k, k < 2 → RowAt W 9 (v k) ((xs k).map sV)
  vv : ∀ b, (v 0).ownBlock = some b → (v 1).ownBlock ≠ some b
  new : ∀ b, H2 q v b → w.heap.size ≤ b
section
variable {w W W2 : World} {q k : Nat} {v : Nat → Value} {xs : Nat → List Bs}
theorem Two.vq (h : Two w q v xs W) (hk : k < 2) : (v k).ownBlock ≠ some q := row_ne' (h.row k hk) h.own (by decide)
theorem Two.lt (h : Two w q v xs W) {b : Nat} (hb : H2 q v b) : b < W.heap.size := by
  rcases hb with rfl | ⟨k, hk, hb⟩
  · exact lt_at h.own
  · exact (h.row k hk).lt hb
theorem Two.cell (h : Two w q v xs W) (hk : k < 2) : W.cell? ⟨q, k, none⟩ = some (v k) := by
  rw [cell_at h.own]
  obtain rfl | rfl : k = 0 ∨ k = 1 := by omega
  all_goals rfl
theorem Two.keeps (h : Two w q v xs W) {Z : Nat → Prop} (hz : Keeps Z W W2) (hZ : ∀ b, H2 q v b → ¬ Z b) : Two w q v xs W2 :=
  ⟨(hz.block q (lt_at h.own) (hZ q (.inl rfl))).trans h.own, fun k hk => (h.row k hk).keeps hz fun b hb => hZ b (.inr ⟨k, hk, hb⟩), h.vv, h.new⟩
theorem cells_two (v : Nat → Value) (hk : k < 2) (x : Value) : (#[v 0, v 1] : Array Value).setIfInBounds k x = #[upd v k x 0, upd v k x 1] := by
  obtain rfl | rfl : k = 0 ∨ k = 1 := by omega
  all_goals rfl
/-- one of them is written anew -/
theorem Two.push (h : Two w q v xs W) (hk : k < 2) {x : Value} {new : List Bs} (hw : Keeps (fun b => (v k).ownBlock = some b) W W2) (hr : RowAt W2 9 x (new.map sV)) (hn : ∀ b, x.ownBlock = some b → (v k).ownBlock = some b ∨ W.heap.size ≤ b) :
    Two w q (upd v k x) (upd xs k new) (W2.setCell ⟨q, k, none⟩ x) ∧ Keeps (H2 q v) W (W2.setCell ⟨q, k, none⟩ x) ∧ ∀ b, H2 q (upd v k x) b → H2 q v b ∨ (W.heap.size ≤ b ∧ b < (W2.setCell ⟨q, k, none⟩ x).heap.size) := by
  have ho : W2.heap[q]? = some (.cells #[v 0, v 1] 51 (0, 0)) := (hw.block q (lt_at h.own) (h.vq hk)).trans h.own
  have hq : ∀ b, b ≠ q → (W2.setCell ⟨q, k, none⟩ x).heap[b]? = W2.heap[b]? := fun b hb => block_other _ _ _ _ hb
  have hxq : x.ownBlock ≠ some q := row_ne' hr ho (by decide)
  have vx : ∀ j b, j < 2 → j ≠ k → x.ownBlock = some b → (v j).ownBlock ≠ some b := fun j b hj hne hb hb2 => by
    rcases hn b hb with h1 | h1
    · rcases other_way hj hk hne with ⟨rfl, rfl⟩ | ⟨rfl, rfl⟩
      · exact h.vv b hb2 h1
      · exact h.vv b h1 hb2
    · have := (h.row j hj).lt hb2; omega
  have hsz : (W2.setCell ⟨q, k, none⟩ x).heap.size = W2.heap.size := by simp
  have hh : ∀ b, H2 q (upd v k x) b → H2 q v b ∨ (W.heap.size ≤ b ∧ b < (W2.setCell ⟨q, k, none⟩ x).heap.size) := fun b hb => by
    rcases hb with rfl | ⟨j, hj, hb⟩
    · exact .inl (.inl rfl)
    · by_cases e : j = k
      · subst e; rw [upd_same] at hb
        rcases hn b hb with h1 | h1
        · exact .inl (.inr ⟨j, hj, h1⟩)
        · exact .inr ⟨h1, by rw [hsz]; exact hr.lt hb⟩
      · rw [upd_other _ _ e] at hb; exact .inl (.inr ⟨j, hj, hb⟩)
  refine ⟨⟨?_, fun j hj => ?_, fun b hb => ?_, fun b hb => ?_⟩, ?_, hh⟩
  · rw [block_same ho, cells_two _ hk]
  · by_cases e : j = k
    · subst e
      simp only [upd_same]
      exact hr.of_same fun b hb => hq b fun e => hxq (e ▸ hb)
    · simp only [upd_other _ _ e]
      refine ((h.row j hj).keeps hw fun b hb hb2 => ?_).of_same fun b hb => hq b fun e => h.vq hj (e ▸ hb)
      rcases other_way hj hk e with ⟨rfl, rfl⟩ | ⟨rfl, rfl⟩
      · exact h.vv b hb hb2
      · exact h.vv b hb2 hb
  · by_cases e : k = 0
    · subst e
      rw [upd_same] at hb
      rw [upd_other _ _ (by decide)]
      exact vx 1 b (by decide) (by decide) hb
    · have e1 : k = 1 := by omega
      subst e1
      rw [upd_other _ _ (by decide)] at hb
      rw [upd_same]
      exact fun hb2 => vx 0 b (by decide) (by decide) hb2 hb
  · rcases hh b hb with h1 | h1
    · exact h.new b h1
    · have := h.new q (.inl rfl); have := lt_at h.own; omega
  · exact (hw.mono fun b _ hb => .inr ⟨k, hk, hb⟩).setCell (p := ⟨q, k, none⟩) (fun _ => .inl rfl) x
end
/-- so many were sent each way; all waits -/
def Ost (w : World) (p q : Nat) (A : Nat → Nat → Bs) (c : Nat → Nat) (v : Nat → Value) (W : World) : Prop :=
  ∃ s : Ls, LL w (H2 q v) p s W ∧ Two w q v (fun k => (List.range (c k)).map (A k)) W ∧ s.ep = 1 ∧ ∀ k, k < 2 → s.wait k = flat ((List.range (c k)).map (A k)) ∧ s.rest k = []
section
variable {w W W2 : World} {p q k : Nat} {A : Nat → Nat → Bs} {c : Nat → Nat} {v : Nat → Value}
theorem Ost.step (h : Ost w p q A c v W) (hk : Keeps (fun _ => False) W W2) : Ost w p q A c v W2 := by
  obtain ⟨s, h1, h2, h3⟩ := h
  exact ⟨s, h1.step hk, h2.keeps hk fun _ _ => id, h3⟩
theorem Ost.row (h : Ost w p q A c v W) (hk : k < 2) : RowAt W 9 (v k) (((List.range (c k)).map (A k)).map sV) := by obtain ⟨s, _, h2, _⟩ := h; exact h2.row k hk
theorem Ost.own (h : Ost w p q A c v W) : W.heap[q]? = some (.cells #[v 0, v 1] 51 (0, 0)) := by obtain ⟨s, _, h2, _⟩ := h; exact h2.own
theorem Ost.keeps (h : Ost w p q A c v W) : Keeps (fun _ => False) w W := by obtain ⟨s, h1, _⟩ := h; exact h1.keeps
/-- one more is listed and sent -/
theorem os_push (h : Ost w p q A c v W) (hk : k < 2) {x : Value} (hw : Keeps (fun b => (v k).ownBlock = some b) W W2) (hr : RowAt W2 9 x (((List.range (c k)).map (A k)).map sV ++ [sV (A k (c k))])) (hn : ∀ b, x.ownBlock = some b → (v k).ownBlock = some b ∨ W.heap.size ≤ b)
    (hc : c k ≤ 9) (hA : ∀ i, 1 ≤ (A k i).length ∧ (A k i).length ≤ 61) :
    Calls Tryd.prog 26 #[.pointer (some ⟨p, 0, none⟩), .int .i64 k, .string (mk (A k (c k)))] (W2.setCell ⟨q, k, none⟩ x) fun ev W3 => ev = .returned (.int .i64 0) ∧ ∃ v', Ost w p q A (upd c k (c k + 1)) v' W3 := by
  obtain ⟨s, h1, h2, h3, h4⟩ := h
  have hr' : RowAt W2 9 x (((List.range (c k + 1)).map (A k)).map sV) := by rw [List.range_succ, List.map_append, List.map_append]; exact hr
  obtain ⟨g1, g2, g3⟩ := h2.push hk hw hr' hn
  have g4 := h1.write g2 (fun b _ hb => ⟨hb, h2.new b hb⟩) g3
  have hl : (s.wait k).length ≤ 9 * 65 := by
    rw [(h4 k hk).1]
    have := flat_le ((List.range (c k)).map (A k)) 61 fun m hm => by obtain ⟨i, _, rfl⟩ := List.mem_map.1 hm; exact (hA i).2
    rw [List.length_map, List.length_range] at this
    have : c k * (4 + 61) ≤ 9 * 65 := Nat.mul_le_mul hc (Nat.le_refl _)
    omega
  obtain ⟨f1, f2⟩ := send_fits (s := s) (k := k) (m := A k (c k)) (hA _).1 (by have := (hA (c k)).2; omega) (by have := (hA (c k)).2; omega)
  have C := ll_send g4 hk (A k (c k)) (by have := (hA (c k)).2; simp [maxLen]; omega)
  rw [f1, f2] at C
  refine C.mono fun ev W3 h => ⟨h.1, upd v k x, { s with wait := upd s.wait k (s.wait k ++ frm (A k (c k))) }, h.2.1, ?_, h3, fun j hj => ?_⟩
  · have := g1.keeps h.2.2 fun b hb hz => hz.2 hb
    have e : (upd (fun k => (List.range (c k)).map (A k)) k ((List.range (c k + 1)).map (A k))) = fun j => (List.range (upd c k (c k + 1) j)).map (A j) := by
      funext j
      by_cases e : j = k
      · subst e; rw [upd_same, upd_same]
      · rw [upd_other _ _ e, upd_other _ _ e]
    rw [e] at this; exact this
  · by_cases e : j = k
    · subst e
      simp only [upd_same]
      refine ⟨?_, (h4 j hj).2⟩
      rw [List.range_succ, List.map_append, List.map_singleton, flat_snoc, (h4 j hj).1]
    · simp only [upd_other _ _ e]; exact h4 j hj
end
/-- while it is taken: got is told, rem still comes -/
def Og (w w2 : World) (p q r : Nat) (v : Nat → Value) (sent : Nat → List Bs) (i : Nat) (vg : Nat → Value) (W : World) : Prop :=
  ∃ (s : Ls) (got rem : Nat → List Bs), LL w (fun b => H2 q v b ∨ H2 r vg b) p s W ∧ Two w q v sent W ∧ Two w2 r vg got W ∧ s.ep = 1 ∧ (∀ b, H2 q v b → b < w2.heap.size) ∧ w.heap.size ≤ w2.heap.size ∧
    (∀ k, k < 2 → got k ++ rem k = sent k ∧ parse (s.rest k ++ s.wait k) = (rem k, [], 0) ∧ parse (s.rest k) = ([], s.rest k, 0) ∧ (s.wait k).length ≤ 650 ∧ (got k).length ≤ 10 ∧ (sent k).length ≤ 10) ∧
    (61 ≤ i → s.wait 0 = []) ∧ (62 ≤ i → s.wait 1 = []) ∧ i ≤ 62
section
variable {w w2 W : World} {p q r i : Nat} {v vg : Nat → Value} {sent : Nat → List Bs}
theorem og_start {A : Nat → Nat → Bs} {c : Nat → Nat} (h : Ost w p q A c v W) (hc : ∀ k, k < 2 → c k ≤ 10) (hA : ∀ k i, 1 ≤ (A k i).length ∧ (A k i).length ≤ 61) :
    Og w W p q W.heap.size v (fun k => (List.range (c k)).map (A k)) 0 (fun _ => .slice none 0 0) (W.alloc (.cells #[.slice none 0 0, .slice none 0 0] 51)) := by
  obtain ⟨s, h1, h2, h3, h4⟩ := h
  have hk : Keeps (fun _ => False) W (W.alloc (.cells #[.slice none 0 0, .slice none 0 0] 51)) := (Keeps.refl _ _).alloc _
  have hnew : ∀ b, H2 W.heap.size (fun _ => .slice none 0 0) b → b = W.heap.size := fun b hb => by
    rcases hb with rfl | ⟨k, _, hb⟩
    · rfl
    · cases hb
  refine ⟨s, fun _ => [], fun k => (List.range (c k)).map (A k), h1.write hk (fun _ _ => False.elim) (fun b hb => ?_), h2.keeps hk fun _ _ => id, ⟨heap_alloc_new _ _, fun _ _ => RowAt.nil _ _, nofun, fun b hb => by rw [hnew b hb]; exact Nat.le_refl _⟩, h3, fun b hb => h2.lt hb, h1.keeps.size, fun k hk2 => ?_, fun h => by omega, fun h => by omega, by omega⟩
  · rcases hb with hb | hb
    · exact .inl hb
    · right; rw [hnew b hb]; simp
  · obtain ⟨e1, e2⟩ := h4 k hk2
    have hall : ∀ m ∈ (List.range (c k)).map (A k), 1 ≤ m.length ∧ m.length ≤ 61 := fun m hm => by obtain ⟨i, _, rfl⟩ := List.mem_map.1 hm; exact hA k i
    have hl := flat_le ((List.range (c k)).map (A k)) 61 fun m hm => (hall m hm).2
    have hn : ((List.range (c k)).map (A k)).length = c k := by simp
    have hc2 := hc k hk2
    refine ⟨rfl, ?_, ?_, ?_, by simp, by show ((List.range (c k)).map (A k)).length ≤ 10; omega⟩
    · rw [e1, e2, List.nil_append]
      have := parse_flat ((List.range (c k)).map (A k)) [] fun m hm => ⟨(hall m hm).1, by have := (hall m hm).2; omega⟩
      rw [List.append_nil, parse_short (l := []) (by decide)] at this
      simpa using this
    · rw [e2]; exact parse_short (by decide)
    · rw [e1]
      have : c k * (4 + 61) ≤ 10 * 65 := Nat.mul_le_mul hc2 (Nat.le_refl _)
      omega
theorem Og.own (h : Og w w2 p q r v sent i vg W) : W.heap[r]? = some (.cells #[vg 0, vg 1] 51 (0, 0)) := by obtain ⟨s, got, rem, _, _, h3, _⟩ := h; exact h3.own
theorem Og.keeps (h : Og w w2 p q r v sent i vg W) : Keeps (fun _ => False) w W := by obtain ⟨s, got, rem, h1, _⟩ := h; exact h1.keeps
theorem Og.le (h : Og w w2 p q r v sent i vg W) : i ≤ 62 := by obtain ⟨s, got, rem, _, _, _, _, _, _, _, _, _, h⟩ := h; exact h
/-- all is told -/
def Oe (w w2 : World) (p q r : Nat) (v : Nat → Value) (sent : Nat → List Bs) (vg : Nat → Value) (W : World) : Prop :=
  ∃ s : Ls, LL w (fun b => H2 q v b ∨ H2 r vg b) p s W ∧ Two w q v sent W ∧ Two w2 r vg sent W ∧ s.ep = 1 ∧ ∀ k, k < 2 → (sent k).length ≤ 10
theorem og_waits (h : Og w w2 p q r v sent i vg W) : ∃ L0 L1 : Nat, L0 + L1 ≤ 1300 ∧ (0 < L0 + L1 → i ≤ 61) ∧ (L0 + L1 = 0 → Oe w w2 p q r v sent vg W) ∧
    Calls Tryd.prog 27 #[.pointer (some ⟨p, 0, none⟩), .int .i64 0] W (fun e w' => e = .returned (.int .i64 L0) ∧ W = w') ∧ Calls Tryd.prog 27 #[.pointer (some ⟨p, 0, none⟩), .int .i64 1] W (fun e w' => e = .returned (.int .i64 L1) ∧ W = w') := by
  obtain ⟨s, got, rem, h1, h2, h3, h4, h5, h6, h7, h8, h9, h10⟩ := h
  refine ⟨(s.wait 0).length, (s.wait 1).length, ?_, fun hp => ?_, fun h0 => ⟨s, h1, h2, ?_, h4, fun k hk => (h7 k hk).2.2.2.2.2⟩, ll_waiting h1 (k := 0) (by decide), ll_waiting h1 (k := 1) (by decide)⟩
  · have := (h7 0 (by decide)).2.2.2.1; have := (h7 1 (by decide)).2.2.2.1; omega
  · rcases Nat.lt_or_ge 61 i with hi | hi
    · rw [h8 (by omega), h9 (by omega)] at hp; simp at hp
    · exact hi
  · have hw : ∀ k, k < 2 → s.wait k = [] := fun k hk => by
      obtain rfl | rfl : k = 0 ∨ k = 1 := by omega
      · exact List.eq_nil_of_length_eq_zero (by omega)
      · exact List.eq_nil_of_length_eq_zero (by omega)
    have e : ∀ k, k < 2 → got k = sent k := fun k hk => by
      obtain ⟨a1, a2, a3, _⟩ := h7 k hk
      rw [hw k hk, List.append_nil, a3] at a2
      simp only [Prod.mk.injEq] at a2
      rw [← a1, ← a2.1, List.append_nil]
    exact ⟨h3.own, fun k hk => by rw [← e k hk]; exact h3.row k hk, h3.vv, h3.new⟩
theorem og_take {k : Nat} {n : Int} (g : Glob w) (h : Og w w2 p q r v sent i vg W) (hk : k < 2) (hik : i % 2 = k) (hi : i ≤ 61) (hn : 0 ≤ n) (hn2 : 60 ≤ i → n = 2000) :
    Calls Tryd.prog 28 #[.pointer (some ⟨p, 0, none⟩), .int .i64 k, .int .i64 n] W fun ev W3 => ∃ (ov : Value) (T G : List Bs), ev = .returned (.tuple #[ov, .int .i64 0]) ∧ RowAt W3 9 ov (T.map sV) ∧ RowAt W3 9 (vg k) (G.map sV) ∧ T.length ≤ 10 ∧ G.length ≤ 10 ∧
      W3.heap[r]? = some (.cells #[vg 0, vg 1] 51 (0, 0)) ∧ ∀ x W4, RowAt W4 9 x (G.map sV ++ T.map sV) → Keeps (fun b => (vg k).ownBlock = some b) W3 W4 → (∀ b, x.ownBlock = some b → (vg k).ownBlock = some b ∨ W3.heap.size ≤ b) →
        Og w w2 p q r v sent (i + 1) (upd vg k x) (W4.setCell ⟨r, k, none⟩ x) := by
  obtain ⟨s, got, rem, h1, h2, h3, h4, h5, h6, h7, h8, h9, h10⟩ := h
  obtain ⟨a1, a2, a3, a4, a5, a6⟩ := h7 k hk
  have C := ll_take g h1 hk n hn (by rw [h4]; decide)
  obtain ⟨m, hm⟩ : ∃ m, takeN s k n = m := ⟨_, rfl⟩
  have hp : takeP s k n = parse (s.rest k ++ (s.wait k).take m) := by unfold takeP; rw [hm]
  rw [← List.take_append_drop m (s.wait k)] at a2
  obtain ⟨c0, c1, ms, c2, c3⟩ := cut_step a2
  obtain ⟨T, hT⟩ : ∃ T, (parse (s.rest k ++ (s.wait k).take m)).1 = T := ⟨_, rfl⟩
  obtain ⟨l2, hl2⟩ : ∃ l2, (parse (s.rest k ++ (s.wait k).take m)).2.1 = l2 := ⟨_, rfl⟩
  rw [hT] at c2
  rw [hl2] at c1 c3
  have hPe : takeP s k n = (T, l2, 0) := by rw [hp, ← hT, ← hl2, ← c0]
  have hS : takeS s k n = { s with wait := upd s.wait k ((s.wait k).drop m), rest := upd s.rest k l2 } := by unfold takeS; rw [hPe, if_pos rfl, hm]
  unfold TakeOut at C
  rw [hPe, hS] at C
  have hTl : T.length ≤ 10 := by
    have := congrArg List.length a1
    rw [c2] at this
    simp only [List.length_append] at this
    omega
  have hGT : (got k ++ T).length ≤ 10 := by
    have := congrArg List.length a1
    rw [c2] at this
    simp only [List.length_append] at this ⊢
    omega
  refine C.mono ?_
  rintro ev W3 ⟨ov, rfl, b1, b2, b3, b4⟩
  have d2 := h2.keeps b4 fun b hb hz => hz.2 (.inl hb)
  have d3 := h3.keeps b4 fun b hb hz => hz.2 (.inr hb)
  refine ⟨ov, T, got k, rfl, b1, d3.row k hk, hTl, a5, d3.own, fun x W4 r4 k4 n4 => ?_⟩
  rw [← List.map_append] at r4
  obtain ⟨g1, g2, g3⟩ := d3.push hk k4 r4 n4
  have hlt : ∀ b, H2 r vg b → w2.heap.size ≤ b := d3.new
  refine ⟨_, _, upd rem k ms, b3.write g2 (fun b _ hb => ⟨.inl (.inr hb), Nat.le_trans h6 (hlt b hb)⟩) (fun b hb => ?_), d2.keeps g2 fun b hb hz => ?_, g1, h4, h5, h6, fun j hj => ?_, fun h => ?_, fun h => ?_, by omega⟩
  · rcases hb with hb | hb
    · exact .inl (.inl (.inl hb))
    · exact (g3 b hb).imp (fun h => .inl (.inr h)) id
  · have := h5 b hb; have := hlt b hz; omega
  · by_cases e : j = k
    · subst e
      simp only [upd_same]
      refine ⟨?_, c3, c1, ?_, hGT, a6⟩
      · rw [List.append_assoc, ← c2]; exact a1
      · rw [List.length_drop]; omega
    · simp only [upd_other _ _ e]; exact h7 j hj
  · show upd s.wait k ((s.wait k).drop m) 0 = []
    by_cases e : i = 60
    · have e0 : k = 0 := by omega
      subst e0
      have := hn2 (by omega)
      unfold takeN at hm
      rw [upd_same, List.drop_eq_nil_iff]; omega
    · have e0 : k ≠ 0 := by omega
      rw [upd_other _ _ e0.symm]; exact h8 (by omega)
  · show upd s.wait k ((s.wait k).drop m) 1 = []
    have e0 : k = 1 := by omega
    subst e0
    have := hn2 (by omega)
    unfold takeN at hm
    rw [upd_same, List.drop_eq_nil_iff]; omega
end
end Go.Proofs.YtfijpnhnlpgkgaaDoor
