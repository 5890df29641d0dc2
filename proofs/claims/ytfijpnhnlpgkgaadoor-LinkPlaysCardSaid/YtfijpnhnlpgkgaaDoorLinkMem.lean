/-
  A link in memory: what waits either way, both readers, the epoch, the ticks; what a write to one way does to it.
  No condition. No walk.
-/
import Derived.Test.YtfijpnhnlpgkgaaDoorState
namespace Go.Proofs.YtfijpnhnlpgkgaaDoor
open Go.RowKit
/-- what waits, what is left in the readers, the epoch, the ticks -/
structure Ls where
  (wait rest : Nat → Bs) (ep gone : Int)
def upd {α : Type} (f : Nat → α) (k : Nat) (x : α) : Nat → α := fun i => if i = k then x else f i
theorem upd_same {α : Type} (f : Nat → α) (k : Nat) (x : α) : upd f k x k = x := if_pos rfl
theorem upd_other {α : Type} (f : Nat → α) {k i : Nat} (x : α) (h : i ≠ k) : upd f k x i = f i := if_neg h
def ptrV (r : Nat) : Value := .pointer (some ⟨r, 0, none⟩)
def lkCells (r : Nat → Nat) (v : Nat → Value) (ep gone : Int) : Array Value := #[ptrV (r 0), v 0, ptrV (r 1), v 1, .int .u64 ep, .int .i64 gone]
structure LkX (w : World) (p : Nat) (s : Ls) (r : Nat → Nat) (v : Nat → Value) (G : Nat → Nat → Prop) : Prop where
  own : w.heap[p]? = some (.cells (lkCells r v s.ep s.gone) 90 (0, 0))
  row : ∀ k, k < 2 → RowAt w 5 (v k) ((s.wait k).map uV)
  rd : ∀ k, k < 2 → Rd w (G k) (r k) (s.rest k) 0
  gg : ∀ b, G 0 b → ¬ G 1 b
  vg : ∀ k j b, k < 2 → j < 2 → (v k).ownBlock = some b → ¬ G j b
  vv : ∀ b, (v 0).ownBlock = some b → (v 1).ownBlock ≠ some b
  ok : ∀ k, k < 2 → (s.wait k).length ≤ 262144 ∧ (s.rest k).length < 65540
/-- the blocks that it lies in -/
def Foot (p : Nat) (v : Nat → Value) (G : Nat → Nat → Prop) (b : Nat) : Prop := b = p ∨ ∃ k, k < 2 ∧ ((v k).ownBlock = some b ∨ G k b)
theorem row_ne2 {w : World} {r : Nat} {v : Value} {xs : List Value} {t t' : TypeId} {cs : Array Value} {f : Nat × Nat} (h : RowAt w t' v xs) (hr : w.heap[r]? = some (.cells cs t f)) (ht : t ≠ t') : v.ownBlock ≠ some r := row_ne' h hr ht
section
variable {w w2 : World} {p k : Nat} {s : Ls} {r : Nat → Nat} {v : Nat → Value} {G : Nat → Nat → Prop}
theorem LkX.pv (h : LkX w p s r v G) (hk : k < 2) : (v k).ownBlock ≠ some p := row_ne' (h.row k hk) h.own (by decide)
theorem LkX.pg (h : LkX w p s r v G) (hk : k < 2) : ¬ G k p := fun hg => by
  obtain ⟨x, h1, h2, h3⟩ := h.rd k hk
  rcases (h3 p).1 hg with e | e
  · rw [← e, h.own] at h1
    simp only [Option.some.injEq, Obj.cells.injEq] at h1
    exact absurd h1.2.1 (by decide)
  · exact row_ne' h2 h.own (by decide) e
theorem LkX.lt (h : LkX w p s r v G) {b : Nat} (hb : Foot p v G b) : b < w.heap.size := by
  rcases hb with rfl | ⟨k, hk, hb | hb⟩
  · exact lt_at h.own
  · exact (h.row k hk).lt hb
  · exact (h.rd k hk).lt hb
theorem LkX.keeps (h : LkX w p s r v G) {Z : Nat → Prop} (hz : Keeps Z w w2) (hZ : ∀ b, Foot p v G b → ¬ Z b) : LkX w2 p s r v G :=
  ⟨(hz.block p (lt_at h.own) (hZ p (.inl rfl))).trans h.own, fun k hk => (h.row k hk).keeps hz fun b hb => hZ b (.inr ⟨k, hk, .inl hb⟩),
    fun k hk => (h.rd k hk).keeps hz fun b hb => hZ b (.inr ⟨k, hk, .inr hb⟩), h.gg, h.vg, h.vv, h.ok⟩
theorem LkX.cellR (h : LkX w p s r v G) (hk : k < 2) : w.cell? ⟨p, 2 * k, none⟩ = some (ptrV (r k)) := by
  rw [cell_at h.own]
  obtain rfl | rfl : k = 0 ∨ k = 1 := by omega
  all_goals rfl
theorem LkX.cellW (h : LkX w p s r v G) (hk : k < 2) : w.cell? ⟨p, 2 * k + 1, none⟩ = some (v k) := by
  rw [cell_at h.own]
  obtain rfl | rfl : k = 0 ∨ k = 1 := by omega
  all_goals rfl
theorem LkX.cellE (h : LkX w p s r v G) : w.cell? ⟨p, 4, none⟩ = some (.int .u64 s.ep) := by rw [cell_at h.own]; rfl
theorem LkX.cellG (h : LkX w p s r v G) : w.cell? ⟨p, 5, none⟩ = some (.int .i64 s.gone) := by rw [cell_at h.own]; rfl
theorem cells_wait (r : Nat → Nat) (v : Nat → Value) (e g : Int) (hk : k < 2) (x : Value) : (lkCells r v e g).setIfInBounds (2 * k + 1) x = lkCells r (upd v k x) e g := by
  obtain rfl | rfl : k = 0 ∨ k = 1 := by omega
  all_goals rfl
theorem other_way {j k : Nat} (hj : j < 2) (hk : k < 2) (h : j ≠ k) : (j = 0 ∧ k = 1) ∨ (j = 1 ∧ k = 0) := by omega
/-- what waits one way is written anew -/
theorem LkX.wait (h : LkX w p s r v G) (hk : k < 2) {x : Value} {new : Bs} (hw : Keeps (fun b => (v k).ownBlock = some b) w w2) (hr : RowAt w2 5 x (new.map uV)) (hn : ∀ b, x.ownBlock = some b → (v k).ownBlock = some b ∨ w.heap.size ≤ b) (hl : new.length ≤ 262144) :
    LkX (w2.setCell ⟨p, 2 * k + 1, none⟩ x) p { s with wait := upd s.wait k new } r (upd v k x) G ∧ Keeps (Foot p v G) w (w2.setCell ⟨p, 2 * k + 1, none⟩ x) ∧ ∀ b, Foot p (upd v k x) G b → Foot p v G b ∨ w.heap.size ≤ b := by
  have ho : w2.heap[p]? = some (.cells (lkCells r v s.ep s.gone) 90 (0, 0)) := (hw.block p (lt_at h.own) (h.pv hk)).trans h.own
  have hp : ∀ b, b ≠ p → (w2.setCell ⟨p, 2 * k + 1, none⟩ x).heap[b]? = w2.heap[b]? := fun b hb => block_other _ _ _ _ hb
  have hxp : x.ownBlock ≠ some p := row_ne' hr ho (by decide)
  have vx : ∀ j b, j < 2 → j ≠ k → x.ownBlock = some b → (v j).ownBlock ≠ some b := fun j b hj hne hb hb2 => by
    rcases hn b hb with h1 | h1
    · rcases other_way hj hk hne with ⟨rfl, rfl⟩ | ⟨rfl, rfl⟩
      · exact h.vv b hb2 h1
      · exact h.vv b h1 hb2
    · have := (h.row j hj).lt hb2; omega
  have gx : ∀ j b, j < 2 → x.ownBlock = some b → ¬ G j b := fun j b hj hb hg => by
    rcases hn b hb with h1 | h1
    · exact h.vg k j b hk hj h1 hg
    · have := (h.rd j hj).lt hg; omega
  refine ⟨⟨?_, fun j hj => ?_, fun j hj => ?_, h.gg, fun i j b hi hj hb => ?_, fun b hb => ?_, fun j hj => ?_⟩, ?_, fun b hb => ?_⟩
  · rw [block_same ho, cells_wait _ _ _ _ hk]
  · by_cases e : j = k
    · subst e
      simp only [upd_same]
      exact hr.of_same fun b hb => hp b fun e => hxp (e ▸ hb)
    · simp only [upd_other _ _ e]
      refine ((h.row j hj).keeps hw fun b hb hb2 => ?_).of_same fun b hb => hp b fun e => h.pv hj (e ▸ hb)
      rcases other_way hj hk e with ⟨rfl, rfl⟩ | ⟨rfl, rfl⟩
      · exact h.vv b hb hb2
      · exact h.vv b hb2 hb
  · have := (h.rd j hj).keeps hw fun b hb hb2 => h.vg k j b hk hj hb2 hb
    refine this.keeps (G := fun b => b = p) ((Keeps.refl (fun b => b = p) w2).setCell (p := ⟨p, 2 * k + 1, none⟩) (fun _ => rfl) x) fun b hb e => h.pg hj (e ▸ hb)
  · by_cases e : i = k
    · subst e; rw [upd_same] at hb; exact gx j b hj hb
    · rw [upd_other _ _ e] at hb; exact h.vg i j b hi hj hb
  · by_cases e : k = 0
    · subst e
      rw [upd_same] at hb
      rw [upd_other _ _ (by decide)]
      exact vx 1 b (by decide) (by decide) hb
    · have e1 : k = 1 := by omega
      subst e1
      rw [upd_other _ _ (by decide)] at hb
      rw [upd_same]
      exact fun hb2 => vx 0 b (by decide) (by decide) hb2 hb
  · by_cases e : j = k
    · subst e; simp only [upd_same]; exact ⟨hl, (h.ok j hj).2⟩
    · simp only [upd_other _ _ e]; exact h.ok j hj
  · exact (hw.mono fun b _ hb => .inr ⟨k, hk, .inl hb⟩).setCell (p := ⟨p, 2 * k + 1, none⟩) (fun _ => .inl rfl) x
  · rcases hb with rfl | ⟨j, hj, hb | hb⟩
    · exact .inl (.inl rfl)
    · by_cases e : j = k
      · subst e; rw [upd_same] at hb
        exact (hn b hb).imp (fun h => .inr ⟨j, hj, .inl h⟩) id
      · rw [upd_other _ _ e] at hb; exact .inl (.inr ⟨j, hj, .inl hb⟩)
    · exact .inl (.inr ⟨j, hj, .inr hb⟩)
/-- a reader is fed -/
theorem LkX.reader (h : LkX w p s r v G) (hk : k < 2) {G' : Nat → Prop} {new : Bs} (hw : Keeps (G k) w w2) (hr : Rd w2 G' (r k) new 0) (hn : ∀ b, G' b → G k b ∨ w.heap.size ≤ b) (hl : new.length < 65540) :
    LkX w2 p { s with rest := upd s.rest k new } r v (upd G k G') ∧ ∀ b, Foot p v (upd G k G') b → Foot p v G b ∨ w.heap.size ≤ b := by
  refine ⟨⟨(hw.block p (lt_at h.own) (h.pg hk)).trans h.own, fun j hj => (h.row j hj).keeps hw fun b hb => h.vg j k b hj hk hb, fun j hj => ?_, fun b hb => ?_, fun i j b hi hj hb => ?_, h.vv, fun j hj => ?_⟩, fun b hb => ?_⟩
  · by_cases e : j = k
    · subst e; simp only [upd_same]; exact hr
    · simp only [upd_other _ _ e]
      refine (h.rd j hj).keeps hw fun b hb hb2 => ?_
      rcases other_way hj hk e with ⟨rfl, rfl⟩ | ⟨rfl, rfl⟩
      · exact h.gg b hb hb2
      · exact h.gg b hb2 hb
  · by_cases e : k = 0
    · subst e
      rw [upd_same] at hb
      rw [upd_other _ _ (by decide)]
      intro hb2
      rcases hn b hb with h1 | h1
      · exact h.gg b h1 hb2
      · have := (h.rd 1 (by decide)).lt hb2; omega
    · have e1 : k = 1 := by omega
      subst e1
      rw [upd_other _ _ (by decide)] at hb
      rw [upd_same]
      intro hb2
      rcases hn b hb2 with h1 | h1
      · exact h.gg b hb h1
      · have := (h.rd 0 (by decide)).lt hb; omega
  · by_cases e : j = k
    · subst e; rw [upd_same]
      intro hg
      rcases hn b hg with h1 | h1
      · exact h.vg i j b hi hj hb h1
      · have := (h.row i hi).lt hb; omega
    · rw [upd_other _ _ e]; exact h.vg i j b hi hj hb
  · by_cases e : j = k
    · subst e; simp only [upd_same]; exact ⟨(h.ok j hj).1, hl⟩
    · simp only [upd_other _ _ e]; exact h.ok j hj
  · rcases hb with rfl | ⟨j, hj, hb | hb⟩
    · exact .inl (.inl rfl)
    · exact .inl (.inr ⟨j, hj, .inl hb⟩)
    · by_cases e : j = k
      · subst e; rw [upd_same] at hb
        exact (hn b hb).imp (fun h => .inr ⟨j, hj, .inr h⟩) id
      · rw [upd_other _ _ e] at hb; exact .inl (.inr ⟨j, hj, .inr hb⟩)
end
/-- a link, and the blocks that it lies in -/
def Lk (w : World) (F : Nat → Prop) (p : Nat) (s : Ls) : Prop := ∃ r v G, LkX w p s r v G ∧ ∀ b, F b ↔ Foot p v G b
/-- a link that the call made, apart from H -/
def LL (w : World) (H : Nat → Prop) (p : Nat) (s : Ls) (W : World) : Prop :=
  ∃ F, Lk W F p s ∧ (∀ b, F b → w.heap.size ≤ b ∧ ¬ H b) ∧ (∀ b, H b → b < W.heap.size) ∧ Keeps (fun _ => False) w W
section
variable {w W W2 : World} {H F F' : Nat → Prop} {p : Nat} {s s' : Ls}
theorem Lk.lt (h : Lk W F p s) {b : Nat} (hb : F b) : b < W.heap.size := by obtain ⟨r, v, G, h1, h2⟩ := h; exact h1.lt ((h2 b).1 hb)
theorem LL.keeps (h : LL w H p s W) : Keeps (fun _ => False) w W := by obtain ⟨_, _, _, _, h⟩ := h; exact h
theorem LL.step (h : LL w H p s W) (hk : Keeps (fun _ => False) W W2) : LL w H p s W2 := by
  obtain ⟨F, ⟨r, v, G, h1, h0⟩, h2, h3, h4⟩ := h
  exact ⟨F, ⟨r, v, G, h1.keeps hk fun _ _ => id, h0⟩, h2, fun b hb => Nat.lt_of_lt_of_le (h3 b hb) hk.size, h4.trans hk⟩
theorem LL.write (h : LL w H p s W) {K : Nat → Prop} (hk : Keeps K W W2) (hK : ∀ b, b < W.heap.size → K b → H b ∧ w.heap.size ≤ b) {H' : Nat → Prop} (hn : ∀ b, H' b → H b ∨ (W.heap.size ≤ b ∧ b < W2.heap.size)) : LL w H' p s W2 := by
  obtain ⟨F, ⟨r, v, G, h1, h0⟩, h2, h3, h4⟩ := h
  refine ⟨F, ⟨r, v, G, h1.keeps hk fun b hf hb => (h2 b ((h0 b).2 hf)).2 (hK b (h1.lt hf) hb).1, h0⟩, fun b hf => ⟨(h2 b hf).1, fun hb => ?_⟩, fun b hb => ?_, h4.trans' hk fun b hb h => ?_⟩
  · rcases hn b hb with h | h
    · exact (h2 b hf).2 h
    · have := h1.lt ((h0 b).1 hf); omega
  · rcases hn b hb with h | h
    · exact Nat.lt_of_lt_of_le (h3 b h) hk.size
    · exact h.2
  · have := (hK b (Nat.lt_of_lt_of_le hb h4.size) h).2; omega
theorem LL.sub (h : LL w H p s W) {H' : Nat → Prop} (hs : ∀ b, H' b → H b) : LL w H' p s W := by
  obtain ⟨F, h1, h2, h3, h4⟩ := h
  exact ⟨F, h1, fun b hf => ⟨(h2 b hf).1, fun hb => (h2 b hf).2 (hs b hb)⟩, fun b hb => h3 b (hs b hb), h4⟩
/-- what a method does to its link it does to it wherever it lies -/
theorem LL.next (h2 : ∀ b, F b → w.heap.size ≤ b ∧ ¬ H b) (h3 : ∀ b, H b → b < W.heap.size) (h4 : Keeps (fun _ => False) w W)
    (g1 : Lk W2 F' p s') (g2 : ∀ b, F' b → F b ∨ W.heap.size ≤ b) (g3 : Keeps F W W2) : LL w H p s' W2 ∧ HK w H W W2 := by
  refine ⟨⟨F', g1, fun b hb => ?_, fun b hb => Nat.lt_of_lt_of_le (h3 b hb) g3.size, h4.trans' g3 fun b hb hf => ?_⟩, g3.mono fun b _ hf => h2 b hf⟩
  · rcases g2 b hb with h | h
    · exact h2 b h
    · exact ⟨Nat.le_trans h4.size h, fun hh => by have := h3 b hh; omega⟩
  · have := (h2 b hf).1; omega
end
end Go.Proofs.YtfijpnhnlpgkgaaDoor
