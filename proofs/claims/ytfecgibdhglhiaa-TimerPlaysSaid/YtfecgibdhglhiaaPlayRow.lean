/-
  For every input the statement TimerPlays of chapter 7 returns true, and its input reads behind the call as it did.
  No condition.
-/
import Derived.Test.YtfecgibdhglhiaaRows
import Derived.Test.YtfecgibdhglhiaaPlayWalk
import Derived.WalkKit
import Derived.ProofKit
import Derived.OpenShut
import Derived.ShutString
import Derived.ChangeOld
import Derived.ChangeSame
import Derived.Below
import Derived.Deep.Slices
import Derived.Deep.Fields
namespace Go.Proofs.Ytfecgibdhglhiaa.timerPlays
open Go.ChangeShapes Go.WideShapes Go.ChangeAt Go.RowKit Go.Deep
open Go.ChangeMaps (open_string shut_string)
set_option linter.unusedVariables false

theorem own : ownKnob Try.prog.godebug = none := by kernel_rfl
theorem laidOut : laidOutB Try.prog = true := by kernel_rfl

section
variable {H : Type} {enc : TypeId × Value → H} {P : Program} {w : World} {base : Nat} {spare : Nat → Bool} {held : Bool}
theorem open_slice_fields {t e : TypeId} {fs : Array Field} {fuel : Nat} {cs : List Value} {x : DataW H × List MemPlace} (ht : P.underlying t = some (.slice e)) (he : P.underlying e = some (.struct fs))
    (hone : oneCellFields P fs = true) (hC : P.cellsOf e = fs.size) (h : DataW.trod enc P w base spare held fuel t cs = some x) :
    cs = [.slice none 0 0] ∨
    ∃ (a : Addr) (len cap m : Nat), cs = [.slice (some a) len cap] ∧ len ≤ cap ∧ cap ≤ maxLen ∧ len ≤ m ∧
      ∀ i, i < m → ∃ (ys : List (DataW H × List MemPlace)) (n : Nat),
        ∀ (j : Nat) (f : Field), fs[j]? = some f → ∃ (v : Value) (y : DataW H × List MemPlace), w.cell? (a.add (i * fs.size + j)) = some v ∧ ys[j]? = some y ∧ DataW.trod enc P w base spare held n f.type [v] = some y := by
  rcases open_slice ht h with h0 | ⟨a, len, cap, m, n, D, Pl, hcs, hb, hl, hm, hmm, hx, hi⟩
  · exact .inl h0.1
  · refine .inr ⟨a, len, cap, m, hcs, hl, hm, by rw [hmm]; split <;> omega, fun i him => ?_⟩
    obtain ⟨cs', hc, ht'⟩ := hi i him
    rw [hC] at hc
    obtain ⟨ys, n', hn', hy, hlen, hyl, hf⟩ := DataW.trod_struct he ht'
    obtain ⟨_, hcl, hat⟩ := World.cells?_some hc
    refine ⟨ys, n', fun j f hj => ?_⟩
    obtain ⟨ho, hk⟩ := hone_of hone j f hj
    have hjl : j < fs.size := (Array.getElem?_eq_some_iff.1 hj).1
    have hcell := hat j hjl
    have hv : cs'[j]? = some (cs'[j]'(by omega)) := List.getElem?_eq_getElem (by omega)
    have h1 := hf j f hj
    rw [ho, hk] at h1
    have hone' : (cs'.drop j).take 1 = [cs'[j]'(by omega)] := by
      rw [List.drop_eq_getElem_cons (by omega)]
      rfl
    rw [hone'] at h1
    have hys : ys[j]? = some (ys[j]'(by omega)) := List.getElem?_eq_getElem (by omega)
    refine ⟨_, _, ?_, hys, h1.trans hys⟩
    rw [← Go.Deep.add_add, hcell, hv]
end

set_option maxRecDepth 100000 in
theorem plays_none (a : Option Addr) (c : Nat) (w : World) :
    Calls Try.prog 4 #[.slice a 0 c] w fun e w' => e = .returned (.bool true) ∧ Keeps (fun _ => False) w w' := by
  go_enter Try.func4, Try.ntmps4
  go_wp2_with fail
  refine (examples_any w).mono ?_; rintro e w1 ⟨rfl, k1⟩
  have C0 := Lib.hid (newL w1)
  have K1 := Lib.hid k1
  clear k1
  go_wp2_with fail
  refine C0.out.mono ?_; rintro e w2 ⟨p, F0, rfl, h0', f0, k0⟩
  have HK := Lib.hid ((K1.out.trans k0).alloc (.cells #[.slice none 0 0] 38))
  clear h0' f0 k0 K1 C0
  go_wp2_with fail
  go_loopw [6] (fun iv wr => iv = .int .i64 0 ∧ Keeps (fun _ => False) w wr) (fun iv _ => 0)
  case atStart => exact ⟨rfl, HK.out⟩
  case round =>
    obtain ⟨rfl, hk⟩ := hrel
    have HK2 := Lib.hid hk
    clear hk
    go_wp2_with fail
    go_ret
    exact ⟨rfl, HK2.out⟩

/-- a slice of deeds that came in -/
def IsDeeds (w : World) (a : Option Addr) (len : Nat) : Prop :=
  len = 0 ∨ (0 < len ∧ ∃ b off, a = some ⟨b, off, none⟩ ∧ b < w.heap.size ∧ ∃ (kd di ta : Nat → Int) (ds : Nat → ByteArray),
    (∀ i, i < len → w.cell? ⟨b, off + i * 4, none⟩ = some (.int .u8 (kd i)) ∧ w.cell? ⟨b, off + i * 4 + 1, none⟩ = some (.int .u8 (di i)) ∧ w.cell? ⟨b, off + i * 4 + 2, none⟩ = some (.string (ds i)) ∧ w.cell? ⟨b, off + i * 4 + 3, none⟩ = some (.int .u64 (ta i))) ∧
    (∀ i, 0 ≤ kd i ∧ kd i ≤ 255) ∧ (∀ i, 0 ≤ di i ∧ di i ≤ 255))
theorem isDeeds {H : Type} {enc : TypeId × Value → H} {W : World} {base : Nat} {spare : Nat → Bool} {held : Bool} {fuel : Nat} {a0 : Option Addr} {len cap : Nat} {x : DataW H × List MemPlace}
    (h : DataW.trod enc Try.prog W base spare held fuel 34 [.slice a0 len cap] = some x) : IsDeeds W a0 len := by
  rcases open_slice_fields Try.underlying34 Try.underlying40 (by kernel_rfl) (by kernel_rfl) h with h0 | ⟨a, l, c, m, hcs, hl, hc, hlm, hf⟩
  · simp only [List.cons.injEq, Value.slice.injEq, and_true] at h0
    exact .inl h0.2.1
  · simp only [List.cons.injEq, Value.slice.injEq, and_true] at hcs
    obtain ⟨rfl, rfl, rfl⟩ := hcs
    rcases Nat.eq_zero_or_pos len with h0 | h0
    · exact .inl h0
    refine .inr ⟨h0, ?_⟩
    have hq : ∀ i, i < m → ∃ q : Int × Int × Int × ByteArray, W.cell? (a.add (i * 4)) = some (.int .u8 q.1) ∧ W.cell? (a.add (i * 4 + 1)) = some (.int .u8 q.2.1) ∧ W.cell? (a.add (i * 4 + 2)) = some (.string q.2.2.2) ∧ W.cell? (a.add (i * 4 + 3)) = some (.int .u64 q.2.2.1) ∧ (0 ≤ q.1 ∧ q.1 ≤ 255) ∧ (0 ≤ q.2.1 ∧ q.2.1 ≤ 255) := by
      intro i him
      obtain ⟨ys, n, hg⟩ := hf i him
      obtain ⟨v0, y0, e0, _, t0⟩ := hg 0 _ rfl
      obtain ⟨v1, y1, e1, _, t1⟩ := hg 1 _ rfl
      obtain ⟨v2, y2, e2, _, t2⟩ := hg 2 _ rfl
      obtain ⟨v3, y3, e3, _, t3⟩ := hg 3 _ rfl
      obtain ⟨n0, c0, _, w0⟩ := DataW.trod_int Try.underlying5 t0
      obtain ⟨n1, c1, _, w1⟩ := DataW.trod_int Try.underlying5 t1
      obtain ⟨s2, c2, _, _⟩ := DataW.trod_string Try.underlying9 t2
      obtain ⟨n3, c3, _, _⟩ := DataW.trod_int Try.underlying29 t3
      simp only [List.cons.injEq, and_true] at c0 c1 c2 c3
      subst c0 c1 c2 c3
      exact ⟨(n0, n1, n3, s2), e0, e1, e2, e3, bounds_u8 w0, bounds_u8 w1⟩
    obtain ⟨q0, z0, _⟩ := hq 0 (by omega)
    obtain ⟨b, off, rfl, _⟩ := ints_at (w := W) (a := a) (k := .u8) (zs := [q0.1]) (fun i hi => by
      simp only [List.length_singleton, Nat.lt_one_iff] at hi
      subst hi
      simpa using z0) (by simp)
    have hlt : b < W.heap.size := World.block_lt_of_cell? W _ z0
    have hall : ∀ i, ∃ q : Int × Int × Int × ByteArray, (i < len → W.cell? ⟨b, off + i * 4, none⟩ = some (.int .u8 q.1) ∧ W.cell? ⟨b, off + i * 4 + 1, none⟩ = some (.int .u8 q.2.1) ∧ W.cell? ⟨b, off + i * 4 + 2, none⟩ = some (.string q.2.2.2) ∧ W.cell? ⟨b, off + i * 4 + 3, none⟩ = some (.int .u64 q.2.2.1)) ∧ (0 ≤ q.1 ∧ q.1 ≤ 255) ∧ (0 ≤ q.2.1 ∧ q.2.1 ≤ 255) := by
      intro i
      by_cases hi : i < len
      · obtain ⟨q, e0, e1, e2, e3, b0, b1⟩ := hq i (by omega)
        rw [addr_add_lit] at e0 e1 e2 e3
        exact ⟨q, fun _ => ⟨e0, e1, e2, e3⟩, b0, b1⟩
      · exact ⟨(0, 0, 0, .empty), fun h => absurd h hi, by simp, by simp⟩
    obtain ⟨f, hf'⟩ := Classical.axiomOfChoice hall
    exact ⟨b, off, rfl, hlt, fun i => (f i).1, fun i => (f i).2.1, fun i => (f i).2.2.1, fun i => (f i).2.2.2, fun i hi => (hf' i).1 hi, fun i => (hf' i).2.1, fun i => (hf' i).2.2⟩

theorem walk (a0 : Option Addr) (len0 cap0 : Nat) (w : World) (w0 : IsDeeds w a0 len0) :
    Calls Try.prog 4 #[.slice a0 len0 cap0] w fun e w' => e = .returned (.bool true) ∧ Below w.heap.size w w' := by
  rcases w0 with rfl | ⟨h0, b, off, rfl, hb, kd, di, ta, ds, hc, hk, hd⟩
  · exact (plays_none a0 cap0 w).mono fun _ _ ⟨he, hk⟩ => ⟨he, hk.below fun _ _ => id⟩
  · exact (plays_some b off len0 cap0 kd di ta ds w h0 hb hc hk hd).mono fun _ _ ⟨he, hk⟩ => ⟨he, hk.below fun _ _ => id⟩

set_option maxRecDepth 100000 in
theorem lifted (os : Os) (started : os.Started) (H : Type) (enc : TypeId × Value → H) :
    ReturnsInHanded {} Try.checked os 4 .any (Rows.timerPlaysSpec.pre6 enc Try.prog Try.f4 Rows.timerPlaysRow.domain false) (Rows.timerPlaysSpec.post enc Try.prog Try.f4 false true false false) := by
  refine returnsInHanded_of_change (C := Try.checked) own started (by kernel_rfl) Try.func4
    (ChangeSpec.witness6 (enc := enc) (C := Try.checked) false ⟨#[], #[.slice none 0 0], []⟩ 8 (by kernel_rfl) (by kernel_rfl) (by kernel_rfl) (by kernel_rfl)) ?_
  intro W base args ds gs before hval0 hW hcnd _
  have hval : ∀ (j : Nat) t v, Try.f4.params[j]? = some t → args[j]? = some v → Value.okWide Try.prog W .any base t v := hval0
  have hW' := hW
  obtain ⟨p, q, hA0, hV, rfl, hfz, hnd⟩ := hW
  have hA : DataW.TrodAll enc Try.prog W 0 (fun _ => true) true Try.f4.params.toList args.toList ds p := hA0
  rw [Try.params4] at hA hval
  obtain ⟨v0, vs0, d0, ds0, p0, q0, hargs, rfl, rfl, h0, r0⟩ := trodAll_cons hA
  obtain ⟨rfl, rfl, rfl⟩ := trodAll_nil r0
  obtain rfl : args = #[v0] := by cases args; simp_all
  obtain ⟨rfl, rfl⟩ := trodVars_none hV
  obtain ⟨a0, len0, cap0, rfl⟩ := okWide_slice Try.underlying34 (hval 0 34 v0 rfl rfl)
  have k0 := h0
  have lt0 : ∀ x ∈ p0, x.block < W.heap.size := by obtain ⟨m, hm⟩ := k0; exact DataW.trod_lt m _ _ _ hm
  have w0 : IsDeeds W a0 len0 := by
    obtain ⟨fuel, hf⟩ := h0
    exact isDeeds hf
  clear hA0 hval0
  refine (walk a0 len0 cap0 W w0).mono fun e W' ⟨he, bel⟩ => ?_
  subst he
  exact ⟨_, rfl, _, _, _, [], _, [], hW', trodAll_mk1 (shut_bool Try.underlying4 _), (trodAll_cons_mk (Below.trod laidOut (by kernel_rfl) (of_decide_eq_true (by kernel_rfl)) k0 bel lt0) trodAll_mk0), rfl, bel.frame _, fun h => by cases h⟩

theorem over : Rows.timerPlaysRow.holds Try.pinned (OpenSpec.ofChange Rows.timerPlaysSpec) :=
  OpenClaim.holds_of_wide 4 Try.f4 rfl rfl rfl rfl rfl rfl rfl ⟨rfl, rfl, rfl, rfl, rfl⟩ rfl rfl rfl rfl rfl (by kernel_rfl) Try.func4 (by kernel_rfl)
    (of_decide_eq_true (by kernel_rfl)) (by unfold Func.isWrapper; first | (rw [if_pos (by decide +kernel)]; kernel_rfl) | (rw [if_neg (by decide +kernel)]; exact ⟨rfl, rfl⟩))
    (fun os started H enc _ => lifted os started H enc)

theorem proved : Rows.TimerPlaysSaid := over
#print axioms proved
end Go.Proofs.Ytfecgibdhglhiaa.timerPlays
