/-
  A slice of deeds that came in, opened to cells; what the reach of a claim says of their texts.
  No condition.
-/
import Derived.Test.YtfijpnhnlpgkgaaDoorRows
import Derived.Test.YtfijpnhnlpgkgaaDoorLinkPlaysWalk
import Derived.OpenShut
import Derived.ChangeSame
import Derived.SizedLaws
import Derived.Deep.Slices
import Derived.Deep.Fields
namespace Go.Proofs.YtfijpnhnlpgkgaaDoor
open Go.RowKit Go.ChangeShapes Go.WideShapes Go.Deep
theorem weightsAll_mem {H : Type} {P : Program} {e : TypeId} {d : DataW H} {n : Nat} : ∀ {l : List (DataW H)}, d ∈ l → n ∈ d.weights P e → n ∈ DataW.weightsAll P e l
  | [], h, _ => by cases h
  | x :: r, h, hn => by
    simp only [DataW.weightsAll, List.mem_append]
    rcases List.mem_cons.1 h with h | h
    · subst h; exact .inl hn
    · exact .inr (weightsAll_mem h hn)
section
variable {H : Type} {enc : TypeId × Value → H} {W : World} {base : Nat} {spare : Nat → Bool} {held : Bool} {fuel : Nat} {a : Option Addr} {len cap : Nat} {x : DataW H × List MemPlace}
theorem open_slice_weights {P : Program} {t e : TypeId} {fs : Array Field} (ht : P.underlying t = some (.slice e)) (he : P.underlying e = some (.struct fs))
    (hone : oneCellFields P fs = true) (hC : P.cellsOf e = fs.size) (h : DataW.trod enc P W base spare held fuel t [.slice a len cap] = some x) :
    len = 0 ∨
    ∃ (ad : Addr), a = some ad ∧
      ∀ i, i < len → ∃ (ys : List (DataW H × List MemPlace)) (n : Nat), (∀ k ∈ DataW.weightsEach P (fs.toList.map (·.type)) (ys.map (·.1)), k ∈ x.1.weights P t) ∧
        ∀ (j : Nat) (f : Field), fs[j]? = some f → ∃ (v : Value) (y : DataW H × List MemPlace), W.cell? (ad.add (i * fs.size + j)) = some v ∧ ys[j]? = some y ∧ DataW.trod enc P W base spare held n f.type [v] = some y := by
  rcases open_slice ht h with ⟨h0, _⟩ | ⟨a', l, c, m, n, D, Pl, hcs, hb, hl, hm, hmm, hx, hi⟩
  · simp only [List.cons.injEq, Value.slice.injEq, and_true] at h0
    exact .inl h0.2.1
  · simp only [List.cons.injEq, Value.slice.injEq, and_true] at hcs
    obtain ⟨rfl, rfl, rfl⟩ := hcs
    refine .inr ⟨a', rfl, fun i hil => ?_⟩
    obtain ⟨cs', hc, ht'⟩ := hi i (by rw [hmm]; split <;> omega)
    rw [hC] at hc
    obtain ⟨ys, n', hn', hy, hlen, hyl, hf⟩ := DataW.trod_struct he ht'
    obtain ⟨_, hcl, hat⟩ := World.cells?_some hc
    simp only [Prod.mk.injEq] at hy
    refine ⟨ys, n', fun k hk => ?_, fun j f hj => ?_⟩
    · rw [hx]
      have hmem : D i ∈ (List.range len).map D := List.mem_map.2 ⟨i, List.mem_range.2 hil, rfl⟩
      have hw : k ∈ (D i).weights P e := by
        rw [hy.1]
        simp only [DataW.weights, he]
        exact hk
      simp only [DataW.weights, ht, List.mem_cons, List.mem_append]
      exact .inr (.inl (weightsAll_mem hmem hw))
    · obtain ⟨ho, hk⟩ := hone_of hone j f hj
      have hjl : j < fs.size := (Array.getElem?_eq_some_iff.1 hj).1
      have hcell := hat j hjl
      have hv : cs'[j]? = some (cs'[j]'(by omega)) := List.getElem?_eq_getElem (by omega)
      have h1 := hf j f hj
      rw [ho, hk] at h1
      have hone' : (cs'.drop j).take 1 = [cs'[j]'(by omega)] := by
        rw [List.drop_eq_getElem_cons (by omega)]
        rfl
      rw [hone'] at h1
      have hys : ys[j]? = some (ys[j]'(by omega)) := List.getElem?_eq_getElem (by omega)
      refine ⟨_, _, ?_, hys, h1.trans hys⟩
      rw [← Go.Deep.add_add, hcell, hv]
theorem deedArg_of (h : DataW.trod enc Tryd.prog W base spare held fuel 62 [.slice a len cap] = some x) (hB : ∀ n ∈ x.1.weights Tryd.prog 62, n ≤ 140737488351232) : ∃ D, DeedArg W a len D := by
  rcases open_slice_weights Tryd.underlying62 Tryd.underlying66 (by kernel_rfl) (by kernel_rfl) h with rfl | ⟨ad, rfl, hf⟩
  · exact ⟨fun _ => ⟨0, 0, [], 0, false⟩, fun i hi => by omega⟩
  · have hall : ∀ i, ∃ q : Dd, i < len → ∃ b off, some ad = some ⟨b, off, none⟩ ∧ W.cell? ⟨b, off + i * 5, none⟩ = some (.int .u8 q.kd) ∧ W.cell? ⟨b, off + i * 5 + 1, none⟩ = some (.int .i64 q.way) ∧ W.cell? ⟨b, off + i * 5 + 2, none⟩ = some (.string (mk q.S)) ∧
        W.cell? ⟨b, off + i * 5 + 3, none⟩ = some (.int .i64 q.N) ∧ W.cell? ⟨b, off + i * 5 + 4, none⟩ = some (.bool q.lg) ∧ (0 ≤ q.kd ∧ q.kd ≤ 255) ∧ q.S.length ≤ 140737488351232 ∧ b < W.heap.size := by
      intro i
      by_cases hi : i < len
      · obtain ⟨ys0, n0, _, hg0⟩ := hf 0 (by omega)
        obtain ⟨v00, y00, e00, _, _⟩ := hg0 0 _ rfl
        have hp := plain_addr (show W.cell? ad = some v00 by simpa [Addr.add] using e00)
        obtain ⟨ys, n, hb, hg⟩ := hf i hi
        obtain ⟨v0, y0, e0, f0, t0⟩ := hg 0 _ rfl
        obtain ⟨v1, y1, e1, f1, t1⟩ := hg 1 _ rfl
        obtain ⟨v2, y2, e2, f2, t2⟩ := hg 2 _ rfl
        obtain ⟨v3, y3, e3, f3, t3⟩ := hg 3 _ rfl
        obtain ⟨v4, y4, e4, f4, t4⟩ := hg 4 _ rfl
        obtain ⟨z0, c0, _, w0⟩ := DataW.trod_int Tryd.underlying5 t0
        obtain ⟨z1, c1, _, _⟩ := DataW.trod_int Tryd.underlying3 t1
        obtain ⟨s, c2, x2, _⟩ := DataW.trod_string Tryd.underlying9 t2
        obtain ⟨z3, c3, _, _⟩ := DataW.trod_int Tryd.underlying3 t3
        obtain ⟨p, c4, _⟩ := DataW.trod_bool Tryd.underlying4 t4
        simp only [List.cons.injEq, and_true] at c0 c1 c2 c3 c4
        subst c0 c1 c2 c3 c4 x2
        rw [hp, addr_add_lit] at e0 e1 e2 e3 e4
        have hl : s.data.toList.length ≤ 140737488351232 := by
          refine hB _ (hb _ (DataW.weights_mem_each (j := 2) (t := 9) (d := .lit (.string s.data.toList)) rfl ?_ _ (by simp [DataW.weights])))
          rw [List.getElem?_map, f2]; rfl
        exact ⟨⟨z0, z1, s.data.toList, z3, p⟩, fun _ => ⟨ad.block, ad.off, by rw [← hp], e0, e1, e2, e3, e4, bounds_u8 w0, hl, by have := World.block_lt_of_cell? W _ e0; exact this⟩⟩
      · exact ⟨⟨0, 0, [], 0, false⟩, fun h => absurd h hi⟩
    obtain ⟨f, hf'⟩ := Classical.axiomOfChoice hall
    exact ⟨f, fun i hi => hf' i hi⟩
end
end Go.Proofs.YtfijpnhnlpgkgaaDoor
