/-
  Slices of structs of one-cell fields that came in, opened to cells; what a bound on the bulk says of their texts.
  No condition.
-/
import Derived.Test.YtfijpnhnlpgkgaaDoorRows
import Derived.Test.YtfijpnhnlpgkgaaDoorFeedsWalk
import Derived.OpenShut
import Derived.ChangeSame
import Derived.Deep.Slices
import Derived.Deep.Fields
namespace Go.Proofs.YtfijpnhnlpgkgaaDoor
open Go.RowKit Go.ChangeShapes Go.WideShapes Go.Deep
theorem bulk_part {H : Type} {d : DataW H} {l : List (DataW H)} (h : d ∈ l) : Rows.uptoBulk d ≤ Rows.uptoBulkAll l := by
  induction l with
  | nil => cases h
  | cons x r ih =>
    simp only [Rows.uptoBulkAll]
    cases List.mem_cons.1 h with
    | inl e => subst e; omega
    | inr e => have := ih e; omega
section
variable {H : Type} {enc : TypeId × Value → H} {P : Program} {W : World} {base : Nat} {spare : Nat → Bool} {held : Bool} {fuel : Nat} {a : Option Addr} {len cap : Nat} {x : DataW H × List MemPlace}
theorem open_slice_fields {t e : TypeId} {fs : Array Field} (ht : P.underlying t = some (.slice e)) (he : P.underlying e = some (.struct fs))
    (hone : oneCellFields P fs = true) (hC : P.cellsOf e = fs.size) (h : DataW.trod enc P W base spare held fuel t [.slice a len cap] = some x) :
    len = 0 ∨
    ∃ (ad : Addr), a = some ad ∧ cap ≤ maxLen ∧ len ≤ cap ∧
      ∀ i, i < len → ∃ (ys : List (DataW H × List MemPlace)) (n : Nat), Rows.uptoBulk (.agg (ys.map (·.1))) ≤ Rows.uptoBulk x.1 ∧
        ∀ (j : Nat) (f : Field), fs[j]? = some f → ∃ (v : Value) (y : DataW H × List MemPlace), W.cell? (ad.add (i * fs.size + j)) = some v ∧ ys[j]? = some y ∧ DataW.trod enc P W base spare held n f.type [v] = some y := by
  rcases open_slice ht h with ⟨h0, _⟩ | ⟨a', l, c, m, n, D, Pl, hcs, hb, hl, hm, hmm, hx, hi⟩
  · simp only [List.cons.injEq, Value.slice.injEq, and_true] at h0
    exact .inl h0.2.1
  · simp only [List.cons.injEq, Value.slice.injEq, and_true] at hcs
    obtain ⟨rfl, rfl, rfl⟩ := hcs
    refine .inr ⟨a', rfl, hm, hl, fun i hil => ?_⟩
    obtain ⟨cs', hc, ht'⟩ := hi i (by rw [hmm]; split <;> omega)
    rw [hC] at hc
    obtain ⟨ys, n', hn', hy, hlen, hyl, hf⟩ := DataW.trod_struct he ht'
    obtain ⟨_, hcl, hat⟩ := World.cells?_some hc
    simp only [Prod.mk.injEq] at hy
    refine ⟨ys, n', ?_, fun j f hj => ?_⟩
    · rw [← hy.1, hx]
      have hmem : D i ∈ (List.range len).map D := List.mem_map.2 ⟨i, List.mem_range.2 hil, rfl⟩
      have := bulk_part hmem
      simp only [Rows.uptoBulk]
      omega
    · obtain ⟨ho, hk⟩ := hone_of hone j f hj
      have hjl : j < fs.size := (Array.getElem?_eq_some_iff.1 hj).1
      have hcell := hat j hjl
      have hv : cs'[j]? = some (cs'[j]'(by omega)) := List.getElem?_eq_getElem (by omega)
      have h1 := hf j f hj
      rw [ho, hk] at h1
      have hone' : (cs'.drop j).take 1 = [cs'[j]'(by omega)] := by
        rw [List.drop_eq_getElem_cons (by omega)]
        rfl
      rw [hone'] at h1
      have hys : ys[j]? = some (ys[j]'(by omega)) := List.getElem?_eq_getElem (by omega)
      refine ⟨_, _, ?_, hys, h1.trans hys⟩
      rw [← Go.Deep.add_add, hcell, hv]
/-- a text among the fields holds no more than the whole -/
theorem bulk_string {ys : List (DataW H × List MemPlace)} {j B : Nat} {s : List UInt8} {q : List MemPlace} (h : Rows.uptoBulk (.agg (ys.map (·.1))) ≤ B) (hj : ys[j]? = some (.lit (.string s), q)) : s.length ≤ B := by
  have hmem : DataW.lit (.string s) ∈ ys.map (·.1) := List.mem_map.2 ⟨_, List.mem_of_getElem? hj, rfl⟩
  have h1 := bulk_part hmem
  simp only [Rows.uptoBulk] at h h1
  omega
theorem pieceArg_of (h : DataW.trod enc Tryd.prog W base spare held fuel 22 [.slice a len cap] = some x) (hB : Rows.uptoBulk x.1 ≤ 1048576) : len ≤ maxLen ∧ ∃ S P C, PieceArg W a len S P C := by
  rcases open_slice_fields Tryd.underlying22 Tryd.underlying30 (by kernel_rfl) (by kernel_rfl) h with rfl | ⟨ad, rfl, hc, hl, hf⟩
  · exact ⟨by simp [maxLen], fun _ => [], fun _ => false, fun _ => 0, fun i hi => by omega⟩
  · refine ⟨Nat.le_trans hl hc, ?_⟩
    have hall : ∀ i, ∃ q : Bs × Bool × Int, i < len → ∃ b off, some ad = some ⟨b, off, none⟩ ∧ W.cell? ⟨b, off + i * 3, none⟩ = some (.string (mk q.1)) ∧ W.cell? ⟨b, off + i * 3 + 1, none⟩ = some (.bool q.2.1) ∧ W.cell? ⟨b, off + i * 3 + 2, none⟩ = some (.int .u8 q.2.2) ∧ (0 ≤ q.2.2 ∧ q.2.2 ≤ 255) ∧ q.1.length ≤ 1048576 ∧ b < W.heap.size := by
      intro i
      by_cases hi : i < len
      · obtain ⟨ys0, n0, _, hg0⟩ := hf 0 (by omega)
        obtain ⟨v00, y00, e00, _, _⟩ := hg0 0 _ rfl
        have hp := plain_addr (show W.cell? ad = some v00 by simpa [Addr.add] using e00)
        obtain ⟨ys, n, hb, hg⟩ := hf i hi
        obtain ⟨v0, y0, e0, f0, t0⟩ := hg 0 _ rfl
        obtain ⟨v1, y1, e1, _, t1⟩ := hg 1 _ rfl
        obtain ⟨v2, y2, e2, _, t2⟩ := hg 2 _ rfl
        obtain ⟨s, c0, x0, _⟩ := DataW.trod_string Tryd.underlying9 t0
        obtain ⟨p, c1, _⟩ := DataW.trod_bool Tryd.underlying4 t1
        obtain ⟨z, c2, _, w2⟩ := DataW.trod_int Tryd.underlying5 t2
        simp only [List.cons.injEq, and_true] at c0 c1 c2
        subst c0 c1 c2 x0
        rw [hp, addr_add_lit] at e0 e1 e2
        exact ⟨(s.data.toList, p, z), fun _ => ⟨ad.block, ad.off, by rw [← hp], e0, e1, e2, bounds_u8 w2, Nat.le_trans (bulk_string hb f0) hB, by have := World.block_lt_of_cell? W _ e0; exact this⟩⟩
      · exact ⟨([], false, 0), fun h => absurd h hi⟩
    obtain ⟨f, hf'⟩ := Classical.axiomOfChoice hall
    exact ⟨fun i => (f i).1, fun i => (f i).2.1, fun i => (f i).2.2, fun i hi => hf' i hi⟩
end
end Go.Proofs.YtfijpnhnlpgkgaaDoor
