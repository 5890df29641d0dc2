/-
  Rows of bytes in memory: a byte stored, the whole told as a string, a new row of zeros; and both Packs at any text.
  No condition.
-/
import Derived.Test.YtfijpnhnlpgkgaaDoorExam
import Derived.OwnWalk
import Derived.Laws.OwnMore
namespace Go.Proofs.YtfijpnhnlpgkgaaDoor
open Go.RowKit
section
variable {w w' : World} {e : TypeId} {v : Value} {xs : List Value}
theorem row_of_owns {base : Nat} {n : Nat} (h : w.ownsRow base e 1 v n xs) : RowAt w e v xs := by
  have hl : xs.length = n := by simpa using h.1
  rcases h.2 with ⟨h1, h2⟩ | ⟨b, c, cur, h1, _, h2, h3, h4, h5, h6⟩
  · exact .inl ⟨h1, List.eq_nil_of_length_eq_zero (by omega)⟩
  · subst hl
    exact .inr ⟨b, 0, c, cur, h1, h2, h3, h4, by rw [h5]; omega, by simpa using h6⟩
theorem RowAt.put {b off m c i : Nat} {u : Value} (h : RowAt w e (.slice (some ⟨b, off, none⟩) m c) xs) :
    RowAt (w.setCell ⟨b, off + i, none⟩ u) e (.slice (some ⟨b, off, none⟩) m c) (xs.set i u) := by
  rcases h with ⟨h1, _⟩ | ⟨b', off', c', cur, h1, h2, h3, h4, h5, h6⟩
  · cases h1
  · simp only [Value.slice.injEq, Option.some.injEq, Addr.mk.injEq, and_true] at h1
    obtain ⟨⟨rfl, rfl⟩, rfl, rfl⟩ := h1
    refine .inr ⟨b, off, c, cur.setIfInBounds (off + i) u, by simp, block_same h2 _ _, by simpa using h3, h4, by simpa using h5, ?_⟩
    rw [Array.toList_setIfInBounds, List.length_set]
    conv => rhs; rw [← h6]
    rw [List.drop_set, if_neg (by omega), List.take_set, Nat.add_sub_cancel_left]
/-- the whole, told as a string -/
theorem RowAt.conv {l : Bs} (h : RowAt w 5 v (l.map uV)) : (convert 41 9 v).run Tryd.prog w = .ok (sV l) w := by
  rcases Nat.eq_zero_or_pos l.length with h0 | h0
  · obtain rfl := List.eq_nil_of_length_eq_zero h0
    rcases h with ⟨rfl, _⟩ | ⟨b, off, c, cur, rfl, _⟩
    · exact run_convert_bytes_nil w 41 5 Tryd.underlying41 Tryd.underlying5 0 0 9 Tryd.underlying9
    · have := run_convert_bytes_arg (P := Tryd.prog) w 41 5 Tryd.underlying41 Tryd.underlying5 b off 0 c [] rfl (fun i hi => by omega) 9 Tryd.underlying9
      exact this
  · obtain ⟨b, off, c, rfl, _, _, hc⟩ := h.cells (by rw [List.length_map]; exact h0)
    rw [List.length_map] at *
    have := run_convert_bytes_arg (P := Tryd.prog) w 41 5 Tryd.underlying41 Tryd.underlying5 b off l.length c (l.map fun b => (b.toNat : Int)) (by rw [List.length_map]) (fun i hi => by
      rw [hc i (by rw [List.length_map]; exact hi), List.getElem_map, List.getD_eq_getElem?_getD, List.getElem?_map, List.getElem?_eq_getElem hi]
      rfl) 9 Tryd.underlying9
    rw [strOfNums_mk] at this
    exact this
end
theorem made_zero (n : Nat) : (madeCells #[Value.int .u8 0] n).toList = (List.replicate n (0 : UInt8)).map uV := by
  rw [toList_madeCells_one, List.map_replicate]; rfl
/-- both Packs, at any text -/
def packL (l : Bs) : Bs × Bool := if 1 ≤ l.length ∧ l.length ≤ 65536 then (frm l, true) else ([], false)
theorem pack_any (l : Bs) (w : World) (hm : l.length ≤ maxLen) : Calls Tryd.prog 22 #[.string (mk l)] w fun e w' => e = .returned (.tuple #[.string (mk (packL l).1), .bool (packL l).2]) ∧ Keeps (fun _ => False) w w' := by
  unfold packL
  by_cases h : 1 ≤ l.length ∧ l.length ≤ 65536
  · rw [if_pos h]; exact pack_ok l w h.1 h.2
  · rw [if_neg h]; exact (pack_no l w (by omega) hm).mono fun _ _ ⟨h1, h2⟩ => ⟨h1, h2 ▸ Keeps.refl _ _⟩
theorem rpack_any (l : Bs) (w : World) (hm : l.length ≤ maxLen) : Calls Tryd.prog 23 #[.string (mk l)] w fun e w' => e = .returned (.tuple #[.string (mk (packL l).1), .bool (packL l).2]) ∧ Keeps (fun _ => False) w w' := by
  unfold packL
  by_cases h : 1 ≤ l.length ∧ l.length ≤ 65536
  · rw [if_pos h]; exact rpack_ok l w h.1 h.2
  · rw [if_neg h]; exact (rpack_no l w (by omega) hm).mono fun _ _ ⟨h1, h2⟩ => ⟨h1, h2 ▸ Keeps.refl _ _⟩
end Go.Proofs.YtfijpnhnlpgkgaaDoor
