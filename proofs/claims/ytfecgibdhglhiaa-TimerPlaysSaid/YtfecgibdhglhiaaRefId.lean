/-
  The id of a deed.
  Conditions: its number fits a byte.
-/
import Derived.Test.YtfecgibdhglhiaaRefDue
import Derived.Test.YtfecgibdhglhiaaNextWalk
namespace Go.Proofs.Ytfecgibdhglhiaa
open Go.RowKit
def idOf (d : Int) (s : ByteArray) : ByteArray := if 250 < d then s else strOfNums [97 + d % 20]
set_option maxHeartbeats 1000000 in
theorem id_walk (w : World) (kd d : Int) (s : ByteArray) (a : Int) (hd : 0 ≤ d ∧ d ≤ 255) :
    Calls Try.prog 14 #[.agg #[.int .u8 kd, .int .u8 d, .string s, .int .u64 a]] w fun e w' => e = .returned (.string (idOf d s)) ∧ Keeps (fun _ => False) w w' := by
  have hcv : ∀ (o : Obj) (x : Int), Sem.run Try.prog (convert 22 9 (.slice (some ⟨w.heap.size + 1, 0, none⟩) 1 1)) ((w.alloc o).alloc (.cells #[.int .u8 x] 5)) = .ok (.string (strOfNums [x])) ((w.alloc o).alloc (.cells #[.int .u8 x] 5)) := fun o x => by
    have := conv1 (w.alloc o) x
    rw [show (w.alloc o).heap.size = w.heap.size + 1 by simp] at this
    exact this
  have y1 : d.tmod 20 = d % 20 := Int.tmod_eq_emod_of_nonneg hd.1
  obtain ⟨m, hm⟩ : ∃ m, d % 20 = m := ⟨_, rfl⟩
  have y2 : IntKind.u8.wrap (97 + m) = 97 + m := IntWalk.u8_in _ (by omega)
  rw [hm] at y1
  by_cases h : 250 < d
  · have hi : idOf d s = s := by unfold idOf; rw [if_pos h]
    rw [hi]
    clear hi hm
    go_enter Try.func14, Try.ntmps14
    go_wp2
    go_ret
    exact ⟨rfl, (Keeps.refl _ _).alloc _⟩
  · have hi : idOf d s = strOfNums [97 + m] := by unfold idOf; rw [if_neg h, hm]
    rw [hi]
    clear hi hm
    go_enter Try.func14, Try.ntmps14
    go_wp2
    go_ret
    exact ⟨rfl, ((Keeps.refl _ _).alloc _).alloc _⟩
end Go.Proofs.Ytfecgibdhglhiaa
