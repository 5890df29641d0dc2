/-
  Lists of texts and of bytes that came in, as a walk takes them, out of their reading as data.
  No condition.
-/
import Derived.Test.YtfijpnhnlpgkgaaDoorState
import Derived.OpenShut
import Derived.Deep.Slices
namespace Go.Proofs.YtfijpnhnlpgkgaaDoor
open Go.RowKit Go.ChangeShapes Go.WideShapes Go.Deep
/-- a list of texts that came in -/
def StrArg (w : World) (a : Option Addr) (len : Nat) (S : Nat → Bs) : Prop :=
  ∀ i, i < len → ∃ b off, a = some ⟨b, off, none⟩ ∧ w.cell? ⟨b, off + i, none⟩ = some (.string (mk (S i))) ∧ (S i).length ≤ maxLen ∧ b < w.heap.size
/-- a list of bytes that came in -/
def U8Arg (w : World) (a : Option Addr) (len : Nat) (z : Nat → Int) : Prop :=
  ∀ i, i < len → ∃ b off, a = some ⟨b, off, none⟩ ∧ w.cell? ⟨b, off + i, none⟩ = some (.int .u8 (z i)) ∧ (0 ≤ z i ∧ z i ≤ 255) ∧ b < w.heap.size
section
variable {H : Type} {enc : TypeId × Value → H} {W : World} {base : Nat} {spare : Nat → Bool} {held : Bool} {fuel : Nat} {a : Option Addr} {len cap : Nat} {x : DataW H × List MemPlace}
theorem plain_addr {a : Addr} {v : Value} (h : W.cell? a = some v) : a = ⟨a.block, a.off, none⟩ := by
  obtain ⟨b, o, s⟩ := a
  cases s with
  | none => rfl
  | some k =>
    unfold World.cell? at h
    split at h
    · simp at h
    · cases h
theorem slice_cells {t e : TypeId} (ht : Tryd.prog.underlying t = some (.slice e)) (hC : Tryd.prog.cellsOf e = 1) (h : DataW.trod enc Tryd.prog W base spare held fuel t [.slice a len cap] = some x) :
    (len = 0 ∨ (len ≤ cap ∧ cap ≤ maxLen)) ∧ ∀ i, i < len → ∃ b off v n y, a = some ⟨b, off, none⟩ ∧ W.cell? ⟨b, off + i, none⟩ = some v ∧ DataW.trod enc Tryd.prog W base spare held n e [v] = some y := by
  rcases open_slice ht h with ⟨h0, _⟩ | ⟨a', l, c, m, n, D, Pl, hcs, hb, hl, hm, hmm, hx, hi⟩
  · simp only [List.cons.injEq, Value.slice.injEq, and_true] at h0
    exact ⟨.inl h0.2.1, fun i hi => by omega⟩
  · simp only [List.cons.injEq, Value.slice.injEq, and_true] at hcs
    obtain ⟨rfl, rfl, rfl⟩ := hcs
    refine ⟨.inr ⟨hl, hm⟩, fun i hil => ?_⟩
    have hlm : len ≤ m := by rw [hmm]; split <;> omega
    have cell : ∀ k, k < m → ∃ v, W.cell? (a'.add k) = some v ∧ ∃ n y, DataW.trod enc Tryd.prog W base spare held n e [v] = some y := fun k hk => by
      obtain ⟨cs', hc, ht'⟩ := hi k hk
      rw [hC, Nat.mul_one] at hc
      obtain ⟨_, hcl, hat⟩ := World.cells?_some hc
      have h1 := hat 0 (by omega)
      match cs', hcl with
      | [v], _ =>
        rw [Go.Deep.add_add, Nat.add_zero] at h1
        exact ⟨v, by simpa using h1, _, _, ht'⟩
    obtain ⟨v0, hv0, _⟩ := cell 0 (by omega)
    have hp := plain_addr (show W.cell? a' = some v0 by simpa [Addr.add] using hv0)
    obtain ⟨v, hv, n', y, ht'⟩ := cell i (by omega)
    refine ⟨a'.block, a'.off, v, n', y, by rw [← hp], ?_, ht'⟩
    rw [hp, addr_add_lit] at hv
    exact hv
theorem strArg_of (h : DataW.trod enc Tryd.prog W base spare held fuel 32 [.slice a len cap] = some x) : len ≤ maxLen ∧ ∃ S, StrArg W a len S := by
  obtain ⟨h1, h2⟩ := slice_cells Tryd.underlying32 (by kernel_rfl) h
  refine ⟨by rcases h1 with h1 | h1 <;> simp only [maxLen] at * <;> omega, ?_⟩
  have : ∀ i, ∃ s : Bs, i < len → ∃ b off, a = some ⟨b, off, none⟩ ∧ W.cell? ⟨b, off + i, none⟩ = some (.string (mk s)) ∧ s.length ≤ maxLen ∧ b < W.heap.size := fun i => by
    by_cases hi : i < len
    · obtain ⟨b, off, v, n, y, e1, e2, e3⟩ := h2 i hi
      obtain ⟨s, hs, _, hz⟩ := DataW.trod_string Tryd.underlying9 e3
      simp only [List.cons.injEq, and_true] at hs
      subst hs
      exact ⟨s.data.toList, fun _ => ⟨b, off, e1, e2, by simpa using hz, World.block_lt_of_cell? W _ e2⟩⟩
    · exact ⟨[], fun h => absurd h hi⟩
  obtain ⟨S, hS⟩ := Classical.axiomOfChoice this
  exact ⟨S, fun i hi => hS i hi⟩
theorem u8Arg_of (h : DataW.trod enc Tryd.prog W base spare held fuel 41 [.slice a len cap] = some x) : ∃ z, U8Arg W a len z := by
  obtain ⟨_, h2⟩ := slice_cells Tryd.underlying41 (by kernel_rfl) h
  have : ∀ i, ∃ z : Int, i < len → ∃ b off, a = some ⟨b, off, none⟩ ∧ W.cell? ⟨b, off + i, none⟩ = some (.int .u8 z) ∧ (0 ≤ z ∧ z ≤ 255) ∧ b < W.heap.size := fun i => by
    by_cases hi : i < len
    · obtain ⟨b, off, v, n, y, e1, e2, e3⟩ := h2 i hi
      obtain ⟨z, hs, _, hz⟩ := DataW.trod_int Tryd.underlying5 e3
      simp only [List.cons.injEq, and_true] at hs
      subst hs
      exact ⟨z, fun _ => ⟨b, off, e1, e2, bounds_u8 hz, World.block_lt_of_cell? W _ e2⟩⟩
    · exact ⟨0, fun h => absurd h hi⟩
  obtain ⟨z, hz⟩ := Classical.axiomOfChoice this
  exact ⟨z, fun i hi => hz i hi⟩
end
end Go.Proofs.YtfijpnhnlpgkgaaDoor
