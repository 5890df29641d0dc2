/-
  The walks of (line).Less and (line).Swap over a heap of timers in memory: Less tells which of two falls due first, Swap lets two change places, and nothing else turns.
  Conditions: the line lies in memory as 'HeapAt' says, both places are in it.
-/
import Derived.Test.YtfecgibdhglhiaaMem
import Derived.Test.YtfecgibdhglhiaaSmall
import Derived.BigRegion
import Derived.Lib.Hide
namespace Go.Proofs.Ytfecgibdhglhiaa
open Go.RowKit
section
variable {w : World} {p : Nat} {m l v : Value} {ts : List T}
theorem HeapAt.some (h : HeapAt w p m l v ts) (h0 : 0 < ts.length) : ∃ a c cur, v = .slice (some ⟨a, 0, none⟩) ts.length c ∧ w.heap[a]? = some (.cells cur 57 (0, 0)) ∧ ts.length ≤ c ∧ c ≤ maxLen ∧ cur.size = c ∧ cur.toList.take ts.length = ts.map ptrT := by
  rcases h.shape with ⟨_, h2⟩ | h2
  · subst h2; simp at h0
  · exact h2
/-- h.Less over a heap of timers -/
theorem lessAt (h : HeapAt w p m l v ts) {i k : Nat} (hi : i < ts.length) (hk : k < ts.length) :
    Calls Try.prog 47 #[v, .int .i64 i, .int .i64 k] w fun e w' => e = .returned (.bool (less (g ts i) (g ts k))) ∧ Keeps (fun _ => False) w w' := by
  obtain ⟨a, c, cur, rfl, ha, hc, hm, hs, ht⟩ := h.some (by omega)
  refine (lineLess_any a _ c i k _ _ (g ts i) (g ts k) w hi hk ?_ ?_ (by rw [cell_at (h.tim i hi)]; rfl) (by rw [cell_at (h.tim i hi)]; rfl) (by rw [cell_at (h.tim k hk)]; rfl) (by rw [cell_at (h.tim k hk)]; rfl)).mono ?_
  · rw [cell_at ha, ptr_at ht hi]; rfl
  · rw [cell_at ha, ptr_at ht hk]; rfl
  · rintro e w' ⟨rfl, o, rfl⟩
    exact ⟨rfl, ((Keeps.refl _ _).drew).alloc o⟩
theorem lineSwap_any (a n c i k bi bk : Nat) (ci ck : Value) (cur : Array Value) (w : World) (hn : i < n) (kn : k < n) (hai : bi ≠ a) (hak : bk ≠ a)
    (ha : w.heap[a]? = some (.cells cur 57 (0, 0))) (hi : cur[i]? = some (.pointer (some ⟨bi, 0, none⟩))) (hk : cur[k]? = some (.pointer (some ⟨bk, 0, none⟩)))
    (hci : w.cell? ⟨bi, 3, none⟩ = some ci) (hck : w.cell? ⟨bk, 3, none⟩ = some ck) 
    (fci : w.frozen? ⟨bi, 3, none⟩ = false) (fck : w.frozen? ⟨bk, 3, none⟩ = false) :
    Calls Try.prog 48 #[.slice (some ⟨a, 0, none⟩) n c, .int .i64 i, .int .i64 k] w fun e w' => e = .returned (.tuple #[]) ∧
      ∃ q, w' = ((((w.setCell ⟨a, i, none⟩ (.pointer (some ⟨bk, 0, none⟩))).setCell ⟨a, k, none⟩ (.pointer (some ⟨bi, 0, none⟩))).setCell ⟨bk, 3, none⟩ (.int .i64 i)).setCell ⟨bi, 3, none⟩ (.int .i64 k)).drewN q := by
  have f1 : w.cell? ⟨a, i, none⟩ = some (.pointer (some ⟨bi, 0, none⟩)) := by rw [cell_at ha]; exact hi
  have f2 : w.cell? ⟨a, k, none⟩ = some (.pointer (some ⟨bk, 0, none⟩)) := by rw [cell_at ha]; exact hk
  have f3 : w.frozen? ⟨a, i, none⟩ = false := free_at ha i
  have f4 : w.frozen? ⟨a, k, none⟩ = false := free_at ha k
  have ih : i < cur.size := (Array.getElem?_eq_some_iff.1 hi).1
  have kh : k < cur.size := (Array.getElem?_eq_some_iff.1 hk).1
  have hk2 : (w.setCell ⟨a, i, none⟩ (.pointer (some ⟨bk, 0, none⟩))).cell? ⟨a, k, none⟩ = some (.pointer (some ⟨bk, 0, none⟩)) := by
    rw [cell_at (block_same ha i _), Array.getElem?_setIfInBounds]
    split
    · rename_i e; subst e; simp
    · exact hk
  have g1 : ((w.setCell ⟨a, i, none⟩ (.pointer (some ⟨bk, 0, none⟩))).setCell ⟨a, k, none⟩ (.pointer (some ⟨bi, 0, none⟩))).cell? ⟨a, i, none⟩ = some (.pointer (some ⟨bk, 0, none⟩)) := by
    rw [cell_at (block_same (block_same ha i _) k _), Array.getElem?_setIfInBounds, Array.getElem?_setIfInBounds]
    split
    · rename_i e; subst e; rw [hk] at hi; simp only [Option.some.injEq, Value.pointer.injEq, Addr.mk.injEq] at hi; simp [kh, hi]
    · simp
  have g2 : ((w.setCell ⟨a, i, none⟩ (.pointer (some ⟨bk, 0, none⟩))).setCell ⟨a, k, none⟩ (.pointer (some ⟨bi, 0, none⟩))).cell? ⟨a, k, none⟩ = some (.pointer (some ⟨bi, 0, none⟩)) := by
    rw [cell_at (block_same (block_same ha i _) k _), Array.getElem?_setIfInBounds]
    simp [kh]
  have gb : ∀ b, b ≠ a → ((w.setCell ⟨a, i, none⟩ (.pointer (some ⟨bk, 0, none⟩))).setCell ⟨a, k, none⟩ (.pointer (some ⟨bi, 0, none⟩))).heap[b]? = w.heap[b]? := fun b hb => by
    rw [block_other _ _ _ _ hb, block_other _ _ _ _ hb]
  have g3 : ((w.setCell ⟨a, i, none⟩ (.pointer (some ⟨bk, 0, none⟩))).setCell ⟨a, k, none⟩ (.pointer (some ⟨bi, 0, none⟩))).cell? ⟨bi, 3, none⟩ = some ci := (World.cell?_of_block (a := ⟨bi, 3, none⟩) (gb _ hai)).trans hci
  have g4 : ((w.setCell ⟨a, i, none⟩ (.pointer (some ⟨bk, 0, none⟩))).setCell ⟨a, k, none⟩ (.pointer (some ⟨bi, 0, none⟩))).cell? ⟨bk, 3, none⟩ = some ck := (World.cell?_of_block (a := ⟨bk, 3, none⟩) (gb _ hak)).trans hck
  have g5 : ((w.setCell ⟨a, i, none⟩ (.pointer (some ⟨bk, 0, none⟩))).setCell ⟨a, k, none⟩ (.pointer (some ⟨bi, 0, none⟩))).frozen? ⟨bi, 3, none⟩ = false := (World.frozen?_of_block (a := ⟨bi, 3, none⟩) (gb _ hai)).trans fci
  have g6 : ((w.setCell ⟨a, i, none⟩ (.pointer (some ⟨bk, 0, none⟩))).setCell ⟨a, k, none⟩ (.pointer (some ⟨bi, 0, none⟩))).frozen? ⟨bk, 3, none⟩ = false := (World.frozen?_of_block (a := ⟨bk, 3, none⟩) (gb _ hak)).trans fck
  clear gb hai hak hci hck fci fck ha hi hk ih kh
  generalize hW2 : ((w.setCell ⟨a, i, none⟩ (.pointer (some ⟨bk, 0, none⟩))).setCell ⟨a, k, none⟩ (.pointer (some ⟨bi, 0, none⟩))) = W2 at *
  have g7 : ∃ cx, (W2.setCell ⟨bk, 3, none⟩ (.int .i64 i)).cell? ⟨bi, 3, none⟩ = some cx := by
    by_cases e : bi = bk
    · subst e; exact ⟨_, World.cell?_setCell_same _ _ _ g3⟩
    · exact ⟨_, (World.cell?_setCell_other _ _ _ _ (by simp only [ne_eq, Addr.mk.injEq]; omega)).trans g3⟩
  obtain ⟨cx, g7⟩ := g7
  have HW2 := Lib.hid hW2
  clear hW2
  go_enter Try.func48, Try.ntmps48
  go_wp2
  go_region
  all_goals (rw [HW2.out])
  all_goals clear f1 f2 f3 f4 hk2
  all_goals go_wp2
  all_goals go_region
  all_goals (go_wp2; go_end0; exact ⟨rfl, 2, rfl⟩)
theorem swp_map (ts : List T) {i k : Nat} {f : T → Value} : (swp ts i k).map f = ((ts.map f).set i (f (g ts k))).set k (f (g ts i)) := by
  unfold swp; simp [List.map_set]
theorem take_set (l : List Value) (n i : Nat) (v : Value) : (l.set i v).take n = (l.take n).set i v := List.take_set ..
/-- h.Swap over a heap of timers -/
theorem swapAt (h : HeapAt w p m l v ts) {i k : Nat} (hi : i < ts.length) (hk : k < ts.length) :
    Calls Try.prog 48 #[v, .int .i64 i, .int .i64 k] w fun e w' => e = .returned (.tuple #[]) ∧ HeapAt w' p m l v (swp ts i k) ∧ Keeps (Foot p v ts) w w' := by
  obtain ⟨a, c, cur, rfl, ha, hc, hm, hs, ht⟩ := h.some (by omega)
  have hI := h.tim i hi
  have hK := h.tim k hk
  have nI : (g ts i).blk ≠ a := fun e => by rw [e, ha] at hI; simp [tb] at hI
  have nK : (g ts k).blk ≠ a := fun e => by rw [e, ha] at hK; simp [tb] at hK
  have nP : p ≠ a := fun e => by have := h.own; rw [e, ha] at this; simp at this
  have nPI : p ≠ (g ts i).blk := fun e => by have := h.own; rw [e, hI] at this; simp [tb] at this
  have nPK : p ≠ (g ts k).blk := fun e => by have := h.own; rw [e, hK] at this; simp [tb] at this
  have nA : ∀ j, j < ts.length → (g ts j).blk ≠ a := fun j hj e => by have := h.tim j hj; rw [e, ha] at this; simp [tb] at this
  refine (lineSwap_any a _ c i k _ _ (.int .i64 i) (.int .i64 k) cur w hi hk nI nK ha (ptr_at ht hi) (ptr_at ht hk) (by rw [cell_at hI]; rfl) (by rw [cell_at hK]; rfl) (free_at hI 3) (free_at hK 3)).mono ?_
  rintro e w' ⟨rfl, q, rfl⟩
  refine ⟨rfl, ⟨?_, ⟨?_, .inr ⟨a, c, (cur.setIfInBounds i (ptrT (g ts k))).setIfInBounds k (ptrT (g ts i)), ?_, Nat.zero_le _, ?_, ?_, hm, ?_, ?_⟩⟩, ?_⟩, ?_⟩
  · show (World.setCell _ _ _).heap[p]? = _
    rw [block_other _ _ _ _ nPI, block_other _ _ _ _ nPK, block_other _ _ _ _ nP, block_other _ _ _ _ nP]; exact h.own
  · simp
  · rw [swp_length]
  · show (World.setCell _ _ _).heap[a]? = _
    rw [block_other _ _ _ _ (Ne.symm nI), block_other _ _ _ _ (Ne.symm nK)]
    exact block_same (block_same ha i _) k _
  · rw [swp_length]; exact hc
  · simp [hs]
  · rw [swp_length, Nat.mul_one, swp_map ts]
    simp only [Array.toList_setIfInBounds]
    rw [take_set, take_set, ht]
  · intro j hj
    rw [swp_length] at hj
    show (World.setCell _ _ _).heap[_]? = _
    rw [g_swp hi hk]
    by_cases e1 : j = k
    · subst e1
      rw [if_pos rfl]
      by_cases e2 : i = j
      · subst e2
        rw [block_same (block_same (by rw [block_other _ _ _ _ nI, block_other _ _ _ _ nI]; exact hI) 3 _) 3 _]
        rfl
      · have nn : (g ts i).blk ≠ (g ts j).blk := fun e => e2 (h.inj hi hj e)
        rw [block_same (by rw [block_other _ _ _ _ nn, block_other _ _ _ _ nI, block_other _ _ _ _ nI]; exact hI) 3 _]
        rfl
    · rw [if_neg e1]
      by_cases e2 : j = i
      · subst e2
        rw [if_pos rfl]
        have nn : (g ts k).blk ≠ (g ts j).blk := fun e => e1 (h.inj hj hk e.symm)
        rw [block_other _ _ _ _ nn, block_same (by rw [block_other _ _ _ _ nK, block_other _ _ _ _ nK]; exact hK) 3 _]
        rfl
      · rw [if_neg e2]
        have n1 : (g ts j).blk ≠ (g ts i).blk := fun e => e2 (h.inj hj hi e)
        have n2 : (g ts j).blk ≠ (g ts k).blk := fun e => e1 (h.inj hj hk e)
        rw [block_other _ _ _ _ n1, block_other _ _ _ _ n2, block_other _ _ _ _ (nA j hj), block_other _ _ _ _ (nA j hj)]
        exact h.tim j hj
  · refine (((((Keeps.refl _ _).setCell ?_ _).setCell ?_ _).setCell ?_ _).setCell ?_ _).drewN q
    · exact fun _ => .inr (.inl rfl)
    · exact fun _ => .inr (.inl rfl)
    · exact fun _ => .inr (.inr ⟨_, mem_g hk, rfl⟩)
    · exact fun _ => .inr (.inr ⟨_, mem_g hi, rfl⟩)
end
end Go.Proofs.Ytfecgibdhglhiaa
