/-
  Pack of package frame and of the document walked: a message of 1 to 65536 bytes stands behind its length; any other is refused.
  No condition.
-/
import Derived.Test.YtfijpnhnlpgkgaaDoorFeed
namespace Go.Proofs.YtfijpnhnlpgkgaaDoor
open Go.RowKit
theorem conv4 (W : World) (x y z t : Int) : Sem.run Tryd.prog (convert 41 9 (.slice (some ⟨W.heap.size, 0, none⟩) 4 4)) (W.alloc (.cells #[.int .u8 x, .int .u8 y, .int .u8 z, .int .u8 t] 5)) = .ok (.string (strOfNums [x, y, z, t])) (W.alloc (.cells #[.int .u8 x, .int .u8 y, .int .u8 z, .int .u8 t] 5)) :=
  run_convert_bytes_arg _ 41 5 Tryd.underlying41 Tryd.underlying5 _ 0 4 4 [x, y, z, t] rfl (fun i hi => by
    obtain rfl | rfl | rfl | rfl : i = 0 ∨ i = 1 ∨ i = 2 ∨ i = 3 := by omega
    all_goals (rw [World.cell?_alloc_at _ _ _ _ rfl]; rfl)) 9 Tryd.underlying9
theorem head_nums (l : Bs) (h : l.length ≤ 65536) (x : Int) (hx : x = 0 ∨ x = (l.length : Int) / 16777216) :
    strOfNums [x, (l.length : Int) / 65536, (l.length : Int) / 256 % 256, (l.length : Int) % 256] = mk (head4 l.length) := by
  have hx0 : x = 0 := by omega
  subst hx0
  unfold strOfNums mk head4
  congr 2
  simp only [List.map_cons, List.map_nil, List.cons.injEq, and_true]
  refine ⟨?_, ?_, ?_, ?_⟩ <;> (apply UInt8.toNat_inj.1; rw [UInt8.toNat_ofNat', UInt8.toNat_ofNat']; simp; omega)
/-- a message in memory's way, its head apart -/
theorem frm_of {l : Bs} {H : ByteArray} (h : H = mk (head4 l.length)) : H ++ mk l = mk (frm l) := by rw [h, mk_append]; rfl
theorem mk_some {l : Bs} (h : 1 ≤ l.length) : (mk l).toList.isEmpty = false := by
  have h2 : (mk l).toList.length = l.length := by rw [ByteArray.toList_eq]; simp [mk]
  cases hh : (mk l).toList with
  | nil => rw [hh] at h2; simp at h2; omega
  | cons a b => rfl
set_option maxRecDepth 100000 in
theorem pack_ok (l : Bs) (w : World) (h0 : 1 ≤ l.length) (h1 : l.length ≤ 65536) :
    Calls Tryd.prog 22 #[.string (mk l)] w fun e w' => e = .returned (.tuple #[.string (mk (frm l)), .bool true]) ∧ Keeps (fun _ => False) w w' := by
  have hn := mk_some h0
  obtain ⟨H, hH⟩ : ∃ H, strOfNums [(l.length : Int) / 16777216, (l.length : Int) / 65536, (l.length : Int) / 256 % 256, (l.length : Int) % 256] = H := ⟨_, rfl⟩
  have hHs : H.size ≤ 4 := by rw [← hH, strOfNums_size]; simp
  have hf := frm_of (hH.symm.trans (head_nums l h1 _ (.inr rfl)))
  have hc := conv4 w ((l.length : Int) / 16777216) ((l.length : Int) / 65536) ((l.length : Int) / 256 % 256) ((l.length : Int) % 256)
  rw [hH] at hc
  have hs : (mk l).size = l.length := mk_size l
  obtain ⟨s, hs'⟩ : ∃ s, mk l = s := ⟨_, rfl⟩
  rw [hs'] at hs hf hn ⊢
  rw [← hs] at hc h1
  have HF := Lib.hid hf
  clear hs hf hs' hH h0
  go_enter Tryd.func22, Tryd.ntmps22
  go_wp2
  go_ret2
  exact ⟨by rw [← HF.out]; rfl, (Keeps.refl _ _).alloc _⟩
set_option maxRecDepth 100000 in
theorem pack_no (l : Bs) (w : World) (h : l.length = 0 ∨ 65536 < l.length) (hm : l.length ≤ maxLen) :
    Calls Tryd.prog 22 #[.string (mk l)] w fun e w' => e = .returned (.tuple #[.string .empty, .bool false]) ∧ w = w' := by
  unfold maxLen at hm
  by_cases h0 : l.length = 0
  · obtain rfl := List.eq_nil_of_length_eq_zero h0
    have e1 : (mk []).toList = [] := by rw [ByteArray.toList_eq]; rfl
    have e2 : (mk []).toList.isEmpty = true := by rw [e1]; rfl
    clear h hm h0
    go_enter Tryd.func22, Tryd.ntmps22
    go_wp2
    go_ret2
    exact ⟨rfl, rfl⟩
  · have hn := mk_some (l := l) (by omega)
    have hs : (mk l).size = l.length := mk_size l
    obtain ⟨s, hs'⟩ : ∃ s, mk l = s := ⟨_, rfl⟩
    rw [hs'] at hs hn ⊢
    have hb : (65536 : Int) < s.size := by omega
    have hm' : (s.size : Int) ≤ 9223372036854775807 := by omega
    clear hs hs' h h0 hm
    go_enter Tryd.func22, Tryd.ntmps22
    go_wp2
    go_ret2
    exact ⟨rfl, rfl⟩
set_option maxRecDepth 100000 in
theorem rpack_ok (l : Bs) (w : World) (h0 : 1 ≤ l.length) (h1 : l.length ≤ 65536) :
    Calls Tryd.prog 23 #[.string (mk l)] w fun e w' => e = .returned (.tuple #[.string (mk (frm l)), .bool true]) ∧ Keeps (fun _ => False) w w' := by
  have hn := mk_some h0
  obtain ⟨H, hH⟩ : ∃ H, strOfNums [0, (l.length : Int) / 65536, (l.length : Int) / 256 % 256, (l.length : Int) % 256] = H := ⟨_, rfl⟩
  have hHs : H.size ≤ 4 := by rw [← hH, strOfNums_size]; simp
  have hf := frm_of (hH.symm.trans (head_nums l h1 _ (.inl rfl)))
  have hc := conv4 w 0 ((l.length : Int) / 65536) ((l.length : Int) / 256 % 256) ((l.length : Int) % 256)
  rw [hH] at hc
  have hs : (mk l).size = l.length := mk_size l
  obtain ⟨s, hs'⟩ : ∃ s, mk l = s := ⟨_, rfl⟩
  rw [hs'] at hs hf hn ⊢
  rw [← hs] at hc h1 h0
  have h2 : ¬ (s.size : Int) < 1 := by omega
  have HF := Lib.hid hf
  clear hs hf hs' hH
  go_enter Tryd.func23, Tryd.ntmps23
  go_wp2
  go_ret2
  exact ⟨by rw [← HF.out]; rfl, (Keeps.refl _ _).alloc _⟩
set_option maxRecDepth 100000 in
theorem rpack_no (l : Bs) (w : World) (h : l.length = 0 ∨ 65536 < l.length) (hm : l.length ≤ maxLen) :
    Calls Tryd.prog 23 #[.string (mk l)] w fun e w' => e = .returned (.tuple #[.string .empty, .bool false]) ∧ w = w' := by
  unfold maxLen at hm
  have hs : (mk l).size = l.length := mk_size l
  obtain ⟨s, hs'⟩ : ∃ s, mk l = s := ⟨_, rfl⟩
  rw [hs'] at hs ⊢
  have hm' : (s.size : Int) ≤ 9223372036854775807 := by omega
  have hh : s.size < 1 ∨ (65536 : Int) < s.size := by omega
  clear hs hs' h hm
  rcases hh with hh | hh
  · have h1 : (s.size : Int) < 1 := by omega
    go_enter Tryd.func23, Tryd.ntmps23
    go_wp2
    go_ret2
    exact ⟨rfl, rfl⟩
  · have h1 : ¬ (s.size : Int) < 1 := by omega
    go_enter Tryd.func23, Tryd.ntmps23
    go_wp2
    go_ret2
    exact ⟨rfl, rfl⟩
end Go.Proofs.YtfijpnhnlpgkgaaDoor
