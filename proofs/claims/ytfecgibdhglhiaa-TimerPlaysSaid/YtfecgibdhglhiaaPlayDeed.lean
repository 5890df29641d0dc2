/-
  The same with the deed at hand, that is held beside both.
  Conditions: as in the contracts over one.
-/
import Derived.Test.YtfecgibdhglhiaaPlay
namespace Go.Proofs.Ytfecgibdhglhiaa
open Go.RowKit
structure Dd where
  (k d t : Int) (s : ByteArray)
def Dd.vals (u : Dd) : Array Value := #[.int .u8 u.k, .int .u8 u.d, .string u.s, .int .u64 u.t]
structure PD (w : World) (db : Nat) (u : Dd) (p r : Nat) (L M : List IA) (j : Nat) (W : World) : Prop where
  pt : PT w (fun b => b = db) p r L M j W
  deed : W.heap[db]? = some (.cells u.vals 40 (0, 0))
section
variable {w W W2 : World} {db : Nat} {u : Dd} {p r : Nat} {L M : List IA} {j : Nat}
theorem PD.lt (h : PD w db u p r L M j W) : db < W.heap.size := lt_at h.deed
theorem PD.step (h : PD w db u p r L M j W) (hk : Keeps (fun _ => False) W W2) : PD w db u p r L M j W2 := ⟨h.pt.step hk, (hk.block db h.lt id).trans h.deed⟩
theorem PD.c0 (h : PD w db u p r L M j W) : W.cell? ⟨db, 0, none⟩ = some (.int .u8 u.k) := by rw [cell_at h.deed]; rfl
theorem PD.c1 (h : PD w db u p r L M j W) : W.cell? ⟨db, 1, none⟩ = some (.int .u8 u.d) := by rw [cell_at h.deed]; rfl
theorem PD.c2 (h : PD w db u p r L M j W) : W.cell? ⟨db, 2, none⟩ = some (.string u.s) := by rw [cell_at h.deed]; rfl
theorem PD.c3 (h : PD w db u p r L M j W) : W.cell? ⟨db, 3, none⟩ = some (.int .u64 u.t) := by rw [cell_at h.deed]; rfl
theorem PD.next (h : PD w db u p r L M j W) {L' M' : List IA} {j' : Nat} (a : PT w (fun b => b = db) p r L' M' j' W2) (b : HK w (fun b => b = db) W W2) : PD w db u p r L' M' j' W2 :=
  ⟨a, (b.block db h.lt fun hh => hh.2 rfl).trans h.deed⟩
theorem pd_id (h : PD w db u p r L M j W) (hd : 0 ≤ u.d ∧ u.d ≤ 255) : Calls Try.prog 14 #[.agg #[.int .u8 u.k, .int .u8 u.d, .string u.s, .int .u64 u.t]] W fun e W2 => e = .returned (.string (idOf u.d u.s)) ∧ PD w db u p r L M j W2 :=
  (id_walk W u.k u.d u.s u.t hd).mono fun _ _ ⟨he, hk⟩ => ⟨he, h.step hk⟩
theorem pd_stop (h : PD w db u p r L M j W) (hl : L.length ≤ 2000) (s : ByteArray) : Calls Try.prog 13 #[.pointer (some ⟨p, 0, none⟩), .string s] W fun e W2 => e = .returned (.bool (hasL L s)) ∧ PD w db u p r (delL L s) M j W2 :=
  (pt_stop h.pt hl s).mono fun _ _ ⟨he, a, b⟩ => ⟨he, h.next a b⟩
theorem pd_rstop (h : PD w db u p r L M j W) (hu : Uniq M) (hl : M.length ≤ 2000) (s : ByteArray) : Calls Try.prog 15 #[.pointer (some ⟨r, 0, none⟩), .string s] W fun e W2 => e = .returned (.bool (hasL M s)) ∧ PD w db u p r L (delL M s) j W2 :=
  (pt_rstop h.pt hu hl s).mono fun _ _ ⟨he, a, b⟩ => ⟨he, h.next a b⟩
theorem pd_set (h : PD w db u p r L M j W) (hl : L.length ≤ 1024) (hj : j < 1000000) (s : ByteArray) (a : Int) : Calls Try.prog 10 #[.pointer (some ⟨p, 0, none⟩), .string s, .int .u64 a] W fun e W2 => e = .returned (.int .i64 (setE L s)) ∧ PD w db u p r (setL L s a) M (j + 1) W2 :=
  (pt_set h.pt hl hj s a).mono fun _ _ ⟨he, a, b⟩ => ⟨he, h.next a b⟩
theorem pd_rset (h : PD w db u p r L M j W) (hu : Uniq M) (hl : M.length ≤ 1024) (s : ByteArray) (a : Int) : Calls Try.prog 19 #[.pointer (some ⟨r, 0, none⟩), .string s, .int .u64 a] W fun e W2 => e = .returned (.int .i64 (setE M s)) ∧ PD w db u p r L (setL M s a) j W2 :=
  (pt_rset h.pt hu hl s a).mono fun _ _ ⟨he, a, b⟩ => ⟨he, h.next a b⟩
theorem pd_at (h : PD w db u p r L M j W) (s : ByteArray) : Calls Try.prog 17 #[.pointer (some ⟨p, 0, none⟩), .string s] W fun e W2 => e = .returned (.tuple #[.int .u64 ((atL L s).getD 0), .bool (atL L s).isSome]) ∧ PD w db u p r L M j W2 :=
  (pt_at h.pt s).mono fun _ _ ⟨he, a⟩ => ⟨he, a ▸ h⟩
theorem pd_rat (h : PD w db u p r L M j W) (hl : M.length ≤ 2000) (s : ByteArray) : Calls Try.prog 18 #[.pointer (some ⟨r, 0, none⟩), .string s] W fun e W2 => e = .returned (.tuple #[.int .u64 ((atL M s).getD 0), .bool (atL M s).isSome]) ∧ PD w db u p r L M j W2 :=
  (pt_rat h.pt hl s).mono fun _ _ ⟨he, a⟩ => ⟨he, a ▸ h⟩
theorem PD.out (h : PD w db u p r L M j W) : PT w (fun _ => False) p r L M j W := h.pt.hold (Keeps.refl _ _) fun _ hb => hb.elim
end
end Go.Proofs.Ytfecgibdhglhiaa
