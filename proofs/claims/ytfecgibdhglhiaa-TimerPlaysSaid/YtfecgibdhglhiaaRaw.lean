/-
  The walks of timer.New, Next, At, and of Stop where there is none of that id, over timers in memory.
  Conditions: the timers lie in memory as Raw says.
-/
import Derived.Test.YtfecgibdhglhiaaBy
import Derived.BigQuiet
import Derived.Deep.QuietTactic
namespace Go.Proofs.Ytfecgibdhglhiaa
open Go.RowKit
/-- Timers in memory. -/
structure Raw (w : World) (p mb : Nat) (v : Value) (ts : List T) (last : Int) : Prop where
  heap : HeapAt w p (.map (some mb)) (.int .u64 last) v ts
  bym : ByAt w mb ts
  ids : ∀ t ∈ ts, ∀ u ∈ ts, t.id = u.id → t = u
def FootR (p mb : Nat) (v : Value) (ts : List T) (b : Nat) : Prop := Foot p v ts b ∨ b = mb
section
variable {w w' : World} {p mb : Nat} {v : Value} {ts us : List T} {last : Int}
theorem Raw.lt (h : Raw w p mb v ts last) {b : Nat} (hf : FootR p mb v ts b) : b < w.heap.size := by
  rcases hf with h1 | rfl
  · exact h.heap.lt h1
  · exact h.bym.lt
theorem Raw.of_same (h : Raw w p mb v ts last) (hb : ∀ b, FootR p mb v ts b → w'.heap[b]? = w.heap[b]?) : Raw w' p mb v ts last :=
  ⟨h.heap.of_same fun b hf => hb b (.inl hf), h.bym.of_same (hb mb (.inr rfl)), h.ids⟩
theorem Raw.keeps (h : Raw w p mb v ts last) {F : Nat → Prop} (k : Keeps F w w') (hF : ∀ b, FootR p mb v ts b → ¬ F b) : Raw w' p mb v ts last :=
  h.of_same fun b hb => k.block b (h.lt hb) (hF b hb)
/-- The map's block is none of the others. -/
theorem Raw.apart (h : Raw w p mb v ts last) : ¬ Foot p v ts mb := by
  obtain ⟨es, clock, hm, _⟩ := h.bym
  rintro (h1 | h1 | ⟨t, ht, h1⟩)
  · have := h.heap.own; rw [← h1, hm] at this; cases this
  · rcases h.heap.shape with ⟨h2, _⟩ | ⟨a, c, cur, h2, h3, _⟩
    · rw [h2] at h1; cases h1
    · rw [h2] at h1; simp only [Value.ownBlock, Option.some.injEq] at h1; rw [h1, hm] at h3; cases h3
  · obtain ⟨i, hi, e⟩ := g_of_mem ht
    have := h.heap.tim i hi
    rw [e, h1, hm] at this; cases this

/-- timer.New -/
theorem newAt (w : World) : Calls Try.prog 9 #[] w fun e w' => ∃ p mb, e = .returned (.pointer (some ⟨p, 0, none⟩)) ∧ Raw w' p mb (.slice none 0 0) [] 0 ∧ w.heap.size ≤ p ∧ w.heap.size ≤ mb ∧ Keeps (fun _ => False) w w' := by
  have hmm := @run_makeMap Try.prog
  go_enter Try.func9, Try.ntmps9
  go_wp2
  go_ret
  refine ⟨w.heap.size + 1, w.heap.size, rfl, ⟨⟨?_, World.ownsRow_nil _ _ _ _, fun i hi => by simp at hi⟩, ⟨#[], 0, ?_, by simp, by simp, by simp⟩, by simp⟩, by omega, by omega, ((Keeps.refl _ _).alloc _).alloc _⟩
  · have := heap_alloc_new (w.alloc (.map #[] 0)) (.cells #[.slice none 0 0, .map (some w.heap.size), .int .u64 0] 56)
    simpa using this
  · rw [Below.heap_alloc _ _ _ (by simp)]; exact heap_alloc_new _ _

theorem next0At (h : Raw w p mb v [] last) : Calls Try.prog 20 #[.pointer (some ⟨p, 0, none⟩)] w fun e w' => e = .returned (.tuple #[.string ByteArray.empty, .int .u64 0, .bool false]) ∧ w = w' := by
  obtain ⟨a, c, hv⟩ := h.heap.val
  have q1 := h.heap.cell
  rw [hv] at q1
  clear h hv
  go_enter Try.func20, Try.ntmps20
  go_wp2
  go_ret3
  exact ⟨rfl, rfl⟩
theorem nextAt (h : Raw w p mb v ts last) (h0 : 0 < ts.length) : Calls Try.prog 20 #[.pointer (some ⟨p, 0, none⟩)] w fun e w' => e = .returned (.tuple #[.string (g ts 0).id, .int .u64 (g ts 0).at_, .bool true]) ∧ ∃ n, w' = w.drewN n := by
  obtain ⟨a, c, cur, rfl, ha, hc, hm, hs, ht⟩ := h.heap.some h0
  have q1 := h.heap.cell
  have q2 : w.cell? ⟨a, 0, none⟩ = some (.pointer (some ⟨(g ts 0).blk, 0, none⟩)) := by rw [cell_at ha, ptr_at ht h0]; rfl
  have q3 : w.cell? ⟨(g ts 0).blk, 0, none⟩ = some (.string (g ts 0).id) := by rw [cell_at (h.heap.tim 0 h0)]; rfl
  have q4 : w.cell? ⟨(g ts 0).blk, 1, none⟩ = some (.int .u64 (g ts 0).at_) := by rw [cell_at (h.heap.tim 0 h0)]; rfl
  generalize g ts 0 = t at *
  generalize ts.length = n at *
  have q5 : ((n : Int) == 0) = false := by simp; omega
  unfold maxLen at hm
  clear h ha hs ht
  go_enter Try.func20, Try.ntmps20
  go_wp2
  go_quiet (fail)
  go_wp2
  go_ret3
  exact ⟨rfl, _, rfl⟩
theorem atAt (h : Raw w p mb v ts last) {t : T} (ht : t ∈ ts) : Calls Try.prog 17 #[.pointer (some ⟨p, 0, none⟩), .string t.id] w fun e w' => e = .returned (.tuple #[.int .u64 t.at_, .bool true]) ∧ w = w' := by
  have q1 := h.heap.cell1
  have q2 := h.bym.look_yes ht fun u hu e => by rw [h.ids u hu t ht e]
  obtain ⟨i, hi, rfl⟩ := g_of_mem ht
  have q4 : w.cell? ⟨(g ts i).blk, 1, none⟩ = some (.int .u64 (g ts i).at_) := by rw [cell_at (h.heap.tim i hi)]; rfl
  unfold ptrT at q2
  clear h ht
  go_enter Try.func17, Try.ntmps17
  go_wp2
  go_ret2
  exact ⟨rfl, rfl⟩
theorem at0At (h : Raw w p mb v ts last) {k : ByteArray} (hn : ∀ t ∈ ts, t.id ≠ k) : Calls Try.prog 17 #[.pointer (some ⟨p, 0, none⟩), .string k] w fun e w' => e = .returned (.tuple #[.int .u64 0, .bool false]) ∧ w = w' := by
  have q1 := h.heap.cell1
  have q2 := h.bym.look_no hn
  clear h hn
  go_enter Try.func17, Try.ntmps17
  go_wp2
  go_ret2
  exact ⟨rfl, rfl⟩
theorem stop0At (h : Raw w p mb v ts last) {k : ByteArray} (hn : ∀ t ∈ ts, t.id ≠ k) : Calls Try.prog 13 #[.pointer (some ⟨p, 0, none⟩), .string k] w fun e w' => e = .returned (.bool false) ∧ w = w' := by
  have q1 := h.heap.cell1
  have q2 := h.bym.look_no hn
  clear h hn
  go_enter Try.func13, Try.ntmps13
  go_wp2
  go_ret
  exact ⟨rfl, rfl⟩
end
end Go.Proofs.Ytfecgibdhglhiaa
