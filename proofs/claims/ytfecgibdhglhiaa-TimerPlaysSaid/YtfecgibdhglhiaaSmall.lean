/-
  The walks of timer's smallest functions: cmp.Compare and cmp.Or at uint64 and int, (line).Less, (line).Len, (*Timers).heap, and what a method call on the heap's interface value comes to.
  Conditions: the cells that are read hold what is said.
-/
import Derived.Test.YtfecgibdhglhiaaHeap
import Derived.Test.YtfecgibdhglhiaaRows
import Derived.WalkKit
import Derived.WalkSpells
import Derived.WalkLawsBesides
import Derived.StillTailTactics
import Derived.Handy
namespace Go.Proofs.Ytfecgibdhglhiaa
open Go.RowKit
theorem nan_any (x : Int) (w : World) :
    Calls Try.prog 51 #[.int .u64 x] w fun e w' => e = .returned (.bool false) ∧ w = w' := by
  go_enter Try.func51, Try.ntmps51
  go_wp2
  go_ret
  exact ⟨by simp, rfl⟩

def cmp3 (x y : Int) : Int := if x < y then -1 else if y < x then 1 else 0

theorem cmp_any (x y : Int) (w : World) :
    Calls Try.prog 50 #[.int .u64 x, .int .u64 y] w fun e w' => e = .returned (.int .i64 (cmp3 x y)) ∧ w = w' := by
  by_cases h1 : x < y
  · have e : cmp3 x y = -1 := by simp [cmp3, h1]
    rw [e]
    go_enter Try.func50, Try.ntmps50
    go_wp2_with (go_at_call 51; refine (nan_any _ _).mono ?_; rintro e w' ⟨rfl, rfl⟩)
    go_ret
    exact ⟨rfl, rfl⟩
  · by_cases h2 : y < x
    · have e : cmp3 x y = 1 := by simp [cmp3, h1, h2]
      rw [e]
      go_enter Try.func50, Try.ntmps50
      go_wp2_with (go_at_call 51; refine (nan_any _ _).mono ?_; rintro e w' ⟨rfl, rfl⟩)
      go_ret
      exact ⟨rfl, rfl⟩
    · have e : cmp3 x y = 0 := by simp [cmp3, h1, h2]
      rw [e]
      go_enter Try.func50, Try.ntmps50
      go_wp2_with (go_at_call 51; refine (nan_any _ _).mono ?_; rintro e w' ⟨rfl, rfl⟩)
      go_ret
      exact ⟨rfl, rfl⟩

def or2 (x y : Int) : Int := if x = 0 then y else x
theorem ret_int {k : IntKind} {a b : Int} (h : a = b) : Ending.returned (.int k a) = .returned (.int k b) := by rw [h]
/-- cmp.Or of two numbers -/
theorem or_any (b : Nat) (x y : Int) (w : World) (h0 : w.cell? ⟨b, 0, none⟩ = some (.int .i64 x)) (h1 : w.cell? ⟨b, 1, none⟩ = some (.int .i64 y)) :
    Calls Try.prog 49 #[.slice (some ⟨b, 0, none⟩) 2 2] w fun e w' => e = .returned (.int .i64 (or2 x y)) ∧ w = w' := by
  by_cases hx : x = 0
  · subst hx
    have e : or2 0 y = y := by simp [or2]
    rw [e]
    by_cases hy : y = 0
    · subst hy
      go_enter Try.func49, Try.ntmps49
      go_wp2
      go_rounds 3
      go_ret
      exact ⟨rfl, rfl⟩
    · have hy' : (y != 0) = true := by simp [hy]
      go_enter Try.func49, Try.ntmps49
      go_wp2
      go_rounds 3
      go_ret
      exact ⟨rfl, rfl⟩
  · have e : or2 x y = x := by simp [or2, hx]
    rw [e]
    have hx' : (x != 0) = true := by simp [hx]
    go_enter Try.func49, Try.ntmps49
    go_wp2
    go_rounds 3
    go_ret
    exact ⟨rfl, rfl⟩

theorem less_cmp (a b : T) : decide (or2 (cmp3 a.at_ b.at_) (cmp3 a.num b.num) < 0) = less a b := by
  unfold less
  rw [decide_eq_decide]
  unfold or2 cmp3
  repeat' split
  all_goals omega

/-- (line).Less -/
theorem lineLess_any (a n c i k bi bk : Nat) (x y : T) (w : World) (hn : i < n) (kn : k < n)
    (hi : w.cell? ⟨a, i, none⟩ = some (.pointer (some ⟨bi, 0, none⟩))) (hk : w.cell? ⟨a, k, none⟩ = some (.pointer (some ⟨bk, 0, none⟩)))
    (hi1 : w.cell? ⟨bi, 1, none⟩ = some (.int .u64 x.at_)) (hi2 : w.cell? ⟨bi, 2, none⟩ = some (.int .u64 x.num))
    (hk1 : w.cell? ⟨bk, 1, none⟩ = some (.int .u64 y.at_)) (hk2 : w.cell? ⟨bk, 2, none⟩ = some (.int .u64 y.num)) :
    Calls Try.prog 47 #[.slice (some ⟨a, 0, none⟩) n c, .int .i64 i, .int .i64 k] w fun e w' => e = .returned (.bool (less x y)) ∧ ∃ o, w' = w.drew.alloc o := by
  rw [← less_cmp]
  go_enter Try.func47, Try.ntmps47
  go_wp2
  refine wp_region_still_tail 30 (by kernel_rfl) (by kernel_rfl) ?_
  simp only [List.take_succ_cons, List.take_zero, List.drop_succ_cons, List.drop_zero]
  repeat (first | still_step | (refine wpStill_step (fun K hK => ?_); go_simp; refine ⟨_, (cmp_any _ _ _).mono (fun e w' ⟨h1, h2⟩ => ⟨h1, h2.symm⟩), hK _ ?_⟩; clear hK K))
  refine wpStill_nil ?_
  have e0 : ∀ v1 v2, (w.drew.alloc (.cells #[v1, v2] 3)).cell? ⟨w.heap.size, 0, none⟩ = some v1 := fun v1 v2 => by simp [go_sem]
  have e1 : ∀ v1 v2, (w.drew.alloc (.cells #[v1, v2] 3)).cell? ⟨w.heap.size, 1, none⟩ = some v2 := fun v1 v2 => by simp [go_sem]
  go_wp2_with (go_at_call 49; refine (or_any _ _ _ _ (e0 _ _) (e1 _ _)).mono ?_; rintro e w' ⟨rfl, rfl⟩)
  go_ret
  exact ⟨rfl, _, rfl⟩

/-! ### what a method call on the interface value over *line comes to -/
theorem m_len0 (p : Nat) (w : World) : Sem.run Try.prog (method 194 72 (.pointer (some ⟨p, 0, none⟩)) "Len") w = Sem.run Try.prog (Sem.load .plain ⟨p, 0, none⟩ fun v => Sem.pure (46, v)) w := by kernel_rfl
theorem m_less0 (p : Nat) (w : World) : Sem.run Try.prog (method 194 72 (.pointer (some ⟨p, 0, none⟩)) "Less") w = Sem.run Try.prog (Sem.load .plain ⟨p, 0, none⟩ fun v => Sem.pure (47, v)) w := by kernel_rfl
theorem m_swap0 (p : Nat) (w : World) : Sem.run Try.prog (method 194 72 (.pointer (some ⟨p, 0, none⟩)) "Swap") w = Sem.run Try.prog (Sem.load .plain ⟨p, 0, none⟩ fun v => Sem.pure (48, v)) w := by kernel_rfl
theorem m_pop (p : Nat) (w : World) : Sem.run Try.prog (method 194 72 (.pointer (some ⟨p, 0, none⟩)) "Pop") w = .ok (52, .pointer (some ⟨p, 0, none⟩)) w := by kernel_rfl
theorem m_push (p : Nat) (w : World) : Sem.run Try.prog (method 194 72 (.pointer (some ⟨p, 0, none⟩)) "Push") w = .ok (53, .pointer (some ⟨p, 0, none⟩)) w := by kernel_rfl
theorem m_load {p : Nat} {w : World} {v : Value} {f : FuncId} (hc : w.cell? ⟨p, 0, none⟩ = some v) : Sem.run Try.prog (Sem.load .plain ⟨p, 0, none⟩ fun v => Sem.pure (f, v)) w = .ok (f, v) w := by
  simp [Sem.run, hc]
theorem m_len {p : Nat} {w : World} {v : Value} (hc : w.cell? ⟨p, 0, none⟩ = some v) : Sem.run Try.prog (method 194 72 (.pointer (some ⟨p, 0, none⟩)) "Len") w = .ok (46, v) w := (m_len0 p w).trans (m_load hc)
theorem m_less {p : Nat} {w : World} {v : Value} (hc : w.cell? ⟨p, 0, none⟩ = some v) : Sem.run Try.prog (method 194 72 (.pointer (some ⟨p, 0, none⟩)) "Less") w = .ok (47, v) w := (m_less0 p w).trans (m_load hc)
theorem m_swap {p : Nat} {w : World} {v : Value} (hc : w.cell? ⟨p, 0, none⟩ = some v) : Sem.run Try.prog (method 194 72 (.pointer (some ⟨p, 0, none⟩)) "Swap") w = .ok (48, v) w := (m_swap0 p w).trans (m_load hc)

theorem heap_any (p : Nat) (w : World) :
    Calls Try.prog 23 #[.pointer (some ⟨p, 0, none⟩)] w fun e w' => e = .returned (.iface 72 (.pointer (some ⟨p, 0, none⟩))) ∧ w = w' := by
  go_enter Try.func23, Try.ntmps23
  go_wp2
  go_ret
  exact ⟨rfl, rfl⟩
theorem lineLen_any (a : Option Addr) (n c : Nat) (w : World) :
    Calls Try.prog 46 #[.slice a n c] w fun e w' => e = .returned (.int .i64 n) ∧ w = w' := by
  go_enter Try.func46, Try.ntmps46
  go_wp2
  go_ret
  exact ⟨rfl, rfl⟩
theorem len_any (p : Nat) (a : Option Addr) (n c : Nat) (w : World) (hc : w.cell? ⟨p, 0, none⟩ = some (.slice a n c)) :
    Calls Try.prog 12 #[.pointer (some ⟨p, 0, none⟩)] w fun e w' => e = .returned (.int .i64 n) ∧ w = w' := by
  have h2 := m_len hc
  go_enter Try.func12, Try.ntmps12
  go_wp2_with (first | (go_at_call 23; refine (heap_any _ _).mono ?_; rintro e w' ⟨rfl, rfl⟩) | (go_at_call 46; refine (lineLen_any _ _ _ _).mono ?_; rintro e w' ⟨rfl, rfl⟩))
  go_ret
  exact ⟨rfl, rfl⟩
end Go.Proofs.Ytfecgibdhglhiaa
