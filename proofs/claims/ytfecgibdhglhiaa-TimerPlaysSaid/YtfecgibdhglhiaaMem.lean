/-
  Memory that is written in some blocks alone ('Keeps F w w'': beside the blocks of F all that was there is as it was), and a heap of timers in memory ('HeapAt'): the slice in the line's cell, the timers that its pointers lead to, each with its place.
  No condition. No walk.
-/
import Derived.Test.YtfecgibdhglhiaaHeap
import Derived.WalkKit
import Derived.WalkSpells
import Derived.WalkLawsBesides
namespace Go.Proofs.Ytfecgibdhglhiaa
open Go.RowKit

/-- Beside the blocks of F all that was there is as it was. -/
structure Keeps (F : Nat → Prop) (w w' : World) : Prop where
  os : w'.os = w.os
  tape : w'.tape = w.tape
  output : w'.output = w.output
  size : w.heap.size ≤ w'.heap.size
  block : ∀ k, k < w.heap.size → ¬ F k → w'.heap[k]? = w.heap[k]?

theorem Keeps.refl (F : Nat → Prop) (w : World) : Keeps F w w := ⟨rfl, rfl, rfl, Nat.le_refl _, fun _ _ _ => rfl⟩
theorem Keeps.mono {F G : Nat → Prop} {w w' : World} (h : Keeps F w w') (hs : ∀ k, k < w.heap.size → F k → G k) : Keeps G w w' :=
  ⟨h.os, h.tape, h.output, h.size, fun k hk hn => h.block k hk fun hf => hn (hs k hk hf)⟩
/-- two steps: what the second may write was new, or may be written anyway -/
theorem Keeps.trans' {F G : Nat → Prop} {a b c : World} (h : Keeps F a b) (k : Keeps G b c) (hs : ∀ i, i < a.heap.size → G i → F i) : Keeps F a c :=
  ⟨k.os.trans h.os, k.tape.trans h.tape, k.output.trans h.output, Nat.le_trans h.size k.size,
    fun i hi hn => (k.block i (Nat.lt_of_lt_of_le hi h.size) fun g => hn (hs i hi g)).trans (h.block i hi hn)⟩
theorem Keeps.trans {F : Nat → Prop} {a b c : World} (h : Keeps F a b) (k : Keeps F b c) : Keeps F a c := h.trans' k fun _ _ h => h
theorem Keeps.drew {F : Nat → Prop} {a w : World} (h : Keeps F a w) : Keeps F a w.drew := ⟨h.os, h.tape, h.output, h.size, h.block⟩
theorem Keeps.drewN {F : Nat → Prop} {a w : World} (h : Keeps F a w) (n : Nat) : Keeps F a (w.drewN n) := ⟨h.os, h.tape, h.output, h.size, h.block⟩
theorem Keeps.alloc {F : Nat → Prop} {a w : World} (h : Keeps F a w) (o : Obj) : Keeps F a (w.alloc o) :=
  h.trans ⟨rfl, rfl, rfl, by simp, fun k hk _ => Below.heap_alloc w o k hk⟩
theorem Keeps.setCell {F : Nat → Prop} {a w : World} (h : Keeps F a w) {p : Addr} (hp : p.block < a.heap.size → F p.block) (u : Value) : Keeps F a (w.setCell p u) :=
  h.trans' (G := fun b => b = p.block) ⟨rfl, rfl, rfl, by simp [World.setCell], fun k _ hn => Below.heap_setCell _ _ _ _ hn⟩ fun i hi e => by subst e; exact hp hi
theorem Keeps.grown {F : Nat → Prop} {a w w' : World} {row : Option Nat} (h : Keeps F a w) (hg : w.grownBy w' row) (hr : ∀ k, row = some k → k < a.heap.size → F k) : Keeps F a w' :=
  h.trans' (G := fun b => row = some b) ⟨hg.os, hg.tape, hg.output, hg.size, fun k hk hn => hg.block k hk fun e => hn e.symm⟩ fun i hi e => hr i e hi
theorem Keeps.below {F : Nat → Prop} {w w' : World} (h : Keeps F w w') (hF : ∀ k, k < w.heap.size → ¬ F k) : Below w.heap.size w w' :=
  ⟨h.os, h.tape, h.output, h.size, fun k hk => h.block k hk (hF k hk)⟩

theorem block_setCell (w : World) (b o : Nat) (v : Value) (k : Nat) : (w.setCell ⟨b, o, none⟩ v).heap[k]? =
    if k = b then (w.heap[b]?).map (fun x => match x with | .cells c e fr => .cells (c.setIfInBounds o v) e fr | y => y) else w.heap[k]? := by
  by_cases h : k = b
  · subst h
    simp only [World.setCell, Array.getElem?_modify, if_pos]
    rfl
  · rw [if_neg h]; exact Below.heap_setCell _ _ _ _ h
theorem block_same {w : World} {b : Nat} {c : Array Value} {e : TypeId} {fr : Nat × Nat} (h : w.heap[b]? = some (.cells c e fr)) (o : Nat) (v : Value) :
    (w.setCell ⟨b, o, none⟩ v).heap[b]? = some (.cells (c.setIfInBounds o v) e fr) := by rw [block_setCell, if_pos rfl, h]; rfl
theorem block_other (w : World) (b o : Nat) (v : Value) {k : Nat} (h : k ≠ b) : (w.setCell ⟨b, o, none⟩ v).heap[k]? = w.heap[k]? := Below.heap_setCell _ _ _ _ h
theorem cell_at {w : World} {b : Nat} {c : Array Value} {e : TypeId} {fr : Nat × Nat} (h : w.heap[b]? = some (.cells c e fr)) (o : Nat) : w.cell? ⟨b, o, none⟩ = c[o]? := by
  simp [World.cell?, h]
theorem free_at {w : World} {b : Nat} {c : Array Value} {e : TypeId} (h : w.heap[b]? = some (.cells c e (0, 0))) (o : Nat) : w.frozen? ⟨b, o, none⟩ = false := by
  simp [World.frozen?, h]
theorem lt_at {w : World} {b : Nat} {o : Obj} (h : w.heap[b]? = some o) : b < w.heap.size := (Array.getElem?_eq_some_iff.1 h).1

/-! ### a heap of timers in memory -/
def ptrT (t : T) : Value := .pointer (some ⟨t.blk, 0, none⟩)
def tb (t : T) (pl : Nat) : Obj := .cells #[.string t.id, .int .u64 t.at_, .int .u64 t.num, .int .i64 pl] 60 (0, 0)
/-- the line's cell and its fellows; the slice's row; each timer, with its place -/
structure HeapAt (w : World) (p : Nat) (m l v : Value) (ts : List T) : Prop where
  own : w.heap[p]? = some (.cells #[v, m, l] 56 (0, 0))
  row : w.ownsRow 0 57 1 v ts.length (ts.map ptrT)
  tim : ∀ i, i < ts.length → w.heap[(g ts i).blk]? = some (tb (g ts i) i)
/-- the blocks that it lies in (but for the map) -/
def Foot (p : Nat) (v : Value) (ts : List T) (b : Nat) : Prop := b = p ∨ v.ownBlock = some b ∨ ∃ t ∈ ts, t.blk = b

theorem mem_g {ts : List T} {i : Nat} (h : i < ts.length) : g ts i ∈ ts := by rw [g_lt h]; exact List.getElem_mem h
theorem g_of_mem {ts : List T} {t : T} (h : t ∈ ts) : ∃ i, i < ts.length ∧ g ts i = t := by
  obtain ⟨i, hi, e⟩ := List.getElem_of_mem h
  exact ⟨i, hi, by rw [g_lt hi]; exact e⟩
theorem Foot.perm {p : Nat} {v : Value} {ts us : List T} (h : us.Perm ts) {b : Nat} (hf : Foot p v us b) : Foot p v ts b := by
  rcases hf with h1 | h1 | ⟨t, ht, e⟩
  · exact .inl h1
  · exact .inr (.inl h1)
  · exact .inr (.inr ⟨t, h.mem_iff.1 ht, e⟩)

section
variable {w w' : World} {p : Nat} {m l v : Value} {ts : List T}
/-- no two timers share a block -/
theorem HeapAt.inj (h : HeapAt w p m l v ts) {i j : Nat} (hi : i < ts.length) (hj : j < ts.length) (e : (g ts i).blk = (g ts j).blk) : i = j := by
  have h1 := h.tim i hi
  have h2 := h.tim j hj
  rw [e, h2] at h1
  simp [tb] at h1
  omega
theorem HeapAt.lt (h : HeapAt w p m l v ts) {b : Nat} (hf : Foot p v ts b) : b < w.heap.size := by
  rcases hf with rfl | h1 | ⟨t, ht, rfl⟩
  · exact lt_at h.own
  · exact (h.row.lt b h1).2
  · obtain ⟨i, hi, rfl⟩ := g_of_mem ht
    exact lt_at (h.tim i hi)
theorem HeapAt.of_same (h : HeapAt w p m l v ts) (hb : ∀ b, Foot p v ts b → w'.heap[b]? = w.heap[b]?) : HeapAt w' p m l v ts := by
  refine ⟨(hb p (.inl rfl)).trans h.own, ?_, fun i hi => (hb _ (.inr (.inr ⟨_, mem_g hi, rfl⟩))).trans (h.tim i hi)⟩
  refine ⟨h.row.1, ?_⟩
  rcases h.row.2 with h2 | ⟨gb, cap, cur, hv, hg, hh, r⟩
  · exact .inl h2
  · exact .inr ⟨gb, cap, cur, hv, hg, (hb gb (.inr (.inl (by rw [hv]; rfl)))).trans hh, r⟩
theorem HeapAt.keeps (h : HeapAt w p m l v ts) {F : Nat → Prop} (k : Keeps F w w') (hF : ∀ b, Foot p v ts b → ¬ F b) : HeapAt w' p m l v ts :=
  h.of_same fun b hb => k.block b (h.lt hb) (hF b hb)
theorem HeapAt.cell (h : HeapAt w p m l v ts) : w.cell? ⟨p, 0, none⟩ = some v := by rw [cell_at h.own]; rfl
theorem HeapAt.cell1 (h : HeapAt w p m l v ts) : w.cell? ⟨p, 1, none⟩ = some m := by rw [cell_at h.own]; rfl
theorem HeapAt.cell2 (h : HeapAt w p m l v ts) : w.cell? ⟨p, 2, none⟩ = some l := by rw [cell_at h.own]; rfl
theorem HeapAt.free (h : HeapAt w p m l v ts) (o : Nat) : w.frozen? ⟨p, o, none⟩ = false := free_at h.own o
/-- the slice's shape; its row -/
theorem HeapAt.shape (h : HeapAt w p m l v ts) : (v = .slice none 0 0 ∧ ts = []) ∨ ∃ a c cur, v = .slice (some ⟨a, 0, none⟩) ts.length c ∧ w.heap[a]? = some (.cells cur 57 (0, 0)) ∧ ts.length ≤ c ∧ c ≤ maxLen ∧ cur.size = c ∧ cur.toList.take ts.length = ts.map ptrT := by
  rcases h.row.2 with ⟨h1, h2⟩ | ⟨gb, cap, cur, hv, _, hh, hn, hm, hs, ht⟩
  · exact .inl ⟨h1, List.eq_nil_of_length_eq_zero h2⟩
  · exact .inr ⟨gb, cap, cur, hv, hh, hn, hm, by simpa using hs, by simpa using ht⟩
theorem ptr_at {cur : Array Value} (ht : cur.toList.take ts.length = ts.map ptrT) {i : Nat} (hi : i < ts.length) : cur[i]? = some (ptrT (g ts i)) := by
  have h1 : (cur.toList.take ts.length)[i]? = cur.toList[i]? := by rw [List.getElem?_take, if_pos hi]
  rw [ht] at h1
  simp only [Array.getElem?_toList] at h1
  rw [← h1, List.getElem?_map, g_lt hi]
  simp [hi]
end
end Go.Proofs.Ytfecgibdhglhiaa
