/-
  The examples of chapter 6 hold: the law's own function examples returns true.
  Conditions: the variables errShort and errors.errorType hold what the text lays.
-/
import Derived.Test.YtfijpnhnlpgkgaaDoorRef
namespace Go.Proofs.YtfijpnhnlpgkgaaDoor
open Go.RowKit
theorem parse_e1 : parse ([] ++ (frm [97] ++ [0])) = ([[97]], [0], 0) := by
  rw [List.nil_append, parse_frm _ _ (by decide) (by decide), parse_short (by decide)]
theorem parse_e2 : parse ([0] ++ [0, 0, 0]) = ([], [], 2) := parse_zero (by decide) (by decide)
theorem Glob.fresh {w w' : World} (h : Glob w) (k : Keeps (fun _ => False) w w') : Glob w' := h.keeps k nofun
set_option maxRecDepth 100000 in
set_option maxHeartbeats 1000000 in
theorem examples_any (w : World) (g : Glob w) : Calls Tryd.prog 15 #[] w fun e w' => e = .returned (.bool true) ∧ Keeps (fun _ => False) w w' := by
  have HG := Lib.hid g
  have hgs := g.size
  clear g
  go_enter Tryd.func15, Tryd.ntmps15
  go_wp2_with fail
  refine (pack_ok [97] w (by decide) (by decide)).mono ?_; rintro e w1 ⟨rfl, k1⟩
  have K1 := Lib.hid k1
  have hS1 : mk (frm [97]) ++ ⟨#[0]⟩ = mk (frm [97] ++ [0]) := mk_append _ [0]
  have hS2 : (mk (frm [97])).toList = [0, 0, 0, 1, 97] := by rw [ByteArray.toList_eq]; rfl
  have hS3 : (mk (frm [97])).size ≤ 5 := by rw [mk_size]; decide
  obtain ⟨S, hS⟩ : ∃ S, mk (frm [97]) = S := ⟨_, rfl⟩
  rw [hS] at hS1 hS2 hS3 ⊢
  clear hS k1
  have HS1 := Lib.hid hS1
  clear hS1
  go_wp2_with fail
  refine (new_any w1).mono ?_; rintro e w2 ⟨rfl, rfl⟩
  go_wp2_with fail
  refine (pack_no [] _ (.inl rfl) (by decide)).mono ?_; rintro e w3 ⟨rfl, rfl⟩
  have hk2 : Keeps (fun _ => False) w (w1.alloc (.cells #[.slice none 0 0, .int .i64 0] 76)) := K1.out.alloc _
  have C1 := feed_ok (rd_new w1) (HG.out.fresh hk2) (fun b hb => by have := K1.out.size; omega) (frm [97] ++ [0]) (by decide) (by rw [parse_e1]; decide)
  unfold FeedOut at C1
  rw [parse_e1, ← HS1.out] at C1
  have C1 := Lib.hid C1
  clear hk2
  go_wp2_with fail
  refine C1.out.mono ?_; rintro e w4 ⟨ov, F', rfl, ho, hr, hf, hof, hk⟩
  have hk4 : Keeps (fun _ => False) w w4 := (K1.out.alloc _).trans' hk fun i hi e => by have := K1.out.size; omega
  have hf4 : ∀ b, F' b → w1.heap.size ≤ b := fun b hb => by rcases hf b hb with h | h; omega; (simp at h; omega)
  have C2 := feed_ok hr (HG.out.fresh hk4) (fun b hb => by have := K1.out.size; have := hf4 b hb; omega) [0, 0, 0] (by decide) (by rw [parse_e2]; decide)
  unfold FeedOut at C2
  rw [parse_e2] at C2
  have C2 := Lib.hid C2
  obtain ⟨b1, o1, c1, rfl, _, _, hc1⟩ := ho.cells (by decide)
  have HO := Lib.hid ho
  have HOF := Lib.hid hof
  have HK4 := Lib.hid hk4
  have HF4 := Lib.hid hf4
  clear hk4 hf4 hr hf hof hk hc1 ho C1
  simp only [List.length_map, List.length_singleton]
  go_wp2_with fail
  refine C2.out.mono ?_; rintro e w5 ⟨ov2, F2, rfl, ho2, hr2, hf2, hof2, hk2⟩
  have ho5 := HO.out.keeps hk2 fun b hb => (HOF.out b hb).2
  obtain ⟨b1', o1', c1', e1, _, _, hc1⟩ := ho5.cells (by decide)
  simp only [Value.slice.injEq, Option.some.injEq, Addr.mk.injEq, and_true] at e1
  obtain ⟨⟨rfl, rfl⟩, -, rfl⟩ := e1
  have hc1 : w5.cell? ⟨b1, o1, none⟩ = some (.string (mk [97])) := hc1 0 (by decide)
  obtain ⟨A, hA⟩ : ∃ A, mk [97] = A := ⟨_, rfl⟩
  have hA2 : A.toList = [97] := by rw [← hA, ByteArray.toList_eq]; rfl
  rw [hA] at hc1
  rcases ho2 with ⟨rfl, _⟩ | ⟨b2, o2, c2, cur2, rfl, _⟩
  all_goals
    have HE := Lib.hid (HK4.out.trans' hk2 fun i hi e => by have := HF4.out i e; have := K1.out.size; omega : Keeps (fun _ => False) w w5)
    have CB := Lib.hid (bad_any hr2)
    have CL := Lib.hid (left_any hr2)
    clear hA hr2 hf2 hof2 hk2 ho5 C2
    simp only [List.map_nil, List.length_nil]
    go_wp2_with (first | (go_at_call 21; refine CB.out.mono ?_; rintro e w6 ⟨rfl, rfl⟩) | (go_at_call 20; refine CL.out.mono ?_; rintro e w6 ⟨rfl, rfl⟩))
    go_ret
    exact ⟨rfl, HE.out⟩
end Go.Proofs.YtfijpnhnlpgkgaaDoor
