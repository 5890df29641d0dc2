/-
  The document's timers: 'Set'.
  Conditions: at most 1024 timers, none twice.
-/
import Derived.Test.YtfecgibdhglhiaaRefNext
import Derived.Test.YtfecgibdhglhiaaExam
namespace Go.Proofs.Ytfecgibdhglhiaa
open Go.RowKit
/-- What a call may leave of the object: it holds L, its row is the old one or new. -/
def RefOut (w : World) (r : Nat) (sv : Value) (L : List IA) (w' : World) : Prop :=
  (∃ sv', RefAt w' r sv' L ∧ ∀ b, sv'.ownBlock = some b → sv.ownBlock = some b ∨ w.heap.size ≤ b) ∧ Keeps (fun b => b = r ∨ sv.ownBlock = some b) w w'
theorem RefOut.refl {w : World} {r : Nat} {sv : Value} {L : List IA} (h : RefAt w r sv L) : RefOut w r sv L w := ⟨⟨sv, h, fun _ hb => .inl hb⟩, Keeps.refl _ _⟩
theorem RefOut.then {w w1 w2 : World} {r : Nat} {sv : Value} {L M : List IA} (h : RefOut w r sv L w1) (k : ∀ sv', RefAt w1 r sv' L → RefOut w1 r sv' M w2) : RefOut w r sv M w2 := by
  obtain ⟨⟨s1, a1, a2⟩, a3⟩ := h
  obtain ⟨⟨s2, b1, b2⟩, b3⟩ := k s1 a1
  refine ⟨⟨s2, b1, fun b hb => ?_⟩, a3.trans' b3 fun i hi e => ?_⟩
  · rcases b2 b hb with h | h
    · exact a2 b h
    · exact .inr (Nat.le_trans a3.size h)
  · rcases e with e | e
    · exact .inl e
    · rcases a2 i e with h | h
      · exact .inr h
      · omega
theorem rStop' {w : World} {r : Nat} {sv : Value} {L : List IA} (h : RefAt w r sv L) (hu : Uniq L) (hl : L.length ≤ 2000) (k : ByteArray) :
    Calls Try.prog 15 #[.pointer (some ⟨r, 0, none⟩), .string k] w fun e w' => e = .returned (.bool (hasL L k)) ∧ RefOut w r sv (delL L k) w' := rStop h hu hl k
theorem findI_neg {L : List IA} {k : ByteArray} : (findI L k < 0) ↔ hasL L k = false := by
  unfold findI
  cases hk : hasL L k with
  | false => rw [if_neg (fun h => by rw [find_has.2 h] at hk; cases hk)]; simp
  | true => rw [if_pos (find_has.1 hk)]; simp
theorem src_new2 (w : World) (u v : Value) (hu : u.oneCell' = true) (hv : v.oneCell' = true) : Src Try.prog 2 36 (.slice (some ⟨w.heap.size, 0, none⟩) 1 1) 1 [u, v] (w.alloc (.cells #[u, v] 70)) := by
  have h : RowN (w.alloc (.cells #[u, v] 70)) 70 2 (.slice (some ⟨w.heap.size, 0, none⟩) 1 1) 1 [u, v] := ⟨rfl, .inr ⟨_, 0, 1, _, rfl, heap_alloc_new _ _, by omega, by simp [maxLen], by simp, rfl⟩⟩
  exact h.srcTake Try.underlying36 (fun x hx => by simp only [List.mem_cons, List.not_mem_nil, or_false] at hx; rcases hx with rfl | rfl <;> assumption) (k := 1) (Nat.le_refl 1)
theorem RefOut.seq {w w1 w2 : World} {r : Nat} {sv s1 : Value} {L M : List IA} (_ : RefAt w1 r s1 L) (a2 : ∀ b, s1.ownBlock = some b → sv.ownBlock = some b ∨ w.heap.size ≤ b) (a3 : Keeps (fun b => b = r ∨ sv.ownBlock = some b) w w1) (k : RefOut w1 r s1 M w2) : RefOut w r sv M w2 := by
  obtain ⟨⟨s2, b1, b2⟩, b3⟩ := k
  refine ⟨⟨s2, b1, fun b hb => ?_⟩, a3.trans' b3 fun i hi e => ?_⟩
  · rcases b2 b hb with h | h
    · exact a2 b h
    · exact .inr (Nat.le_trans a3.size h)
  · rcases e with e | e
    · exact .inl e
    · rcases a2 i e with h | h
      · exact .inr h
      · omega
set_option maxRecDepth 100000 in
set_option maxHeartbeats 1000000 in
theorem rSet {w : World} {r : Nat} {sv : Value} {L : List IA} (h : RefAt w r sv L) (hu : Uniq L) (hl : L.length ≤ 1024) (k : ByteArray) (a : Int) :
    Calls Try.prog 19 #[.pointer (some ⟨r, 0, none⟩), .string k, .int .u64 a] w fun e w' => e = .returned (.int .i64 (setE L k)) ∧ RefOut w r sv (setL L k a) w' := by
  obtain ⟨i70, hi, hz0, hz1, hz2⟩ := info_parts Try.info70
  obtain ⟨va, vc, rfl, _⟩ := h.row.val
  have hc : w.cell? ⟨r, 0, none⟩ = some (.slice va L.length vc) := by rw [cell_at h.own]; rfl
  have hrl := h.lt
  by_cases hb : bad k = true
  · have e1 : setE L k = 1 := by simp [setE, hb]
    have e2 : setL L k a = L := by simp [setL, e1]
    rw [e1, e2]
    unfold bad at hb
    have H := Lib.hid (RefOut.refl h)
    clear h e1 e2
    cases hE : k.toList.isEmpty with
    | true =>
      clear hb
      go_enter Try.func19, Try.ntmps19
      go_wp2
      go_ret
      exact ⟨rfl, H.out⟩
    | false =>
      rw [hE] at hb
      have hs : 64 < k.size := by simpa using hb
      have hs' : (64 : Int) < k.size := by omega
      clear hb
      go_enter Try.func19, Try.ntmps19
      go_wp2
      go_ret
      exact ⟨rfl, H.out⟩
  · have hbf : bad k = false := by simpa using hb
    have hb2 := hbf
    unfold bad at hb2
    simp only [Bool.or_eq_false_iff, decide_eq_false_iff_not] at hb2
    obtain ⟨hE, hs⟩ := hb2
    have hs' : ¬ (64 : Int) < k.size := by omega
    clear hb hs
    have hset : setE L k = 0 → Calls Try.prog 15 #[.pointer (some ⟨r, 0, none⟩), .string k] w fun e w' => e = .returned (.bool (hasL L k)) ∧ RefOut w r (.slice va L.length vc) (delL L k) w' := fun _ => rStop' h hu (by omega) k
    have C15 := Lib.hid (hset)
    by_cases h24 : L.length = 1024
    · have hC := find_walk h (by omega) k
      have C27 := Lib.hid hC
      have h24' : (L.length : Int) = 1024 := by omega
      cases hk : hasL L k with
      | false =>
        have hf : findI L k < 0 := findI_neg.2 hk
        have e1 : setE L k = 4 := by simp [setE, hbf, hk, h24]
        have e2 : setL L k a = L := by simp [setL, e1]
        rw [e1, e2]
        have H := Lib.hid (RefOut.refl h)
        clear h e1 e2 hset C15 hbf hC
        go_enter Try.func19, Try.ntmps19
        go_wp2_with fail
        refine C27.out.mono ?_; rintro e w1 ⟨rfl, rfl⟩
        go_wp2
        go_ret
        exact ⟨rfl, H.out⟩
      | true =>
        have hf : ¬ findI L k < 0 := fun h => by rw [findI_neg.1 h] at hk; cases hk
        have e1 : setE L k = 0 := by simp [setE, hbf, hk]
        have HSL := Lib.hid (show setL L k a = delL L k ++ [(k, a)] by simp [setL, e1])
        rw [show setE L k = 0 from e1]
        clear hset h hC hbf hk
        go_enter Try.func19, Try.ntmps19
        go_wp2_with fail
        refine C27.out.mono ?_; rintro e w1 ⟨rfl, rfl⟩
        clear C27
        go_wp2_with fail
        refine (C15.out e1).mono ?_; rintro e w1 ⟨rfl, ho⟩
        obtain ⟨⟨sv1, g1, g2⟩, g3⟩ := ho
        obtain ⟨va1, vc1, rfl, _⟩ := g1.row.val
        have hc1 : w1.cell? ⟨r, 0, none⟩ = some (.slice va1 (delL L k).length vc1) := by rw [cell_at g1.own]; rfl
        have hrl1 := g1.lt
        have hdl : (delL L k).length ≤ 1024 := Nat.le_trans (delL_length_le L k) hl
        have G1 := Lib.hid g1
        have G2 := Lib.hid g2
        have G3 := Lib.hid g3
        clear g1 g2 g3 hc C15
        go_wp2_with (at_builtin; refine wpList_app_rowN rfl _ _ 36 36 rfl 70 i70 _ 24 Try.underlying36 hi hz0 hz1 hz2 rfl (.slice va1 (delL L k).length vc1) (delL L k).length (flatL (delL L k)) rfl (G1.out.row.keeps (F := fun _ => False) ((Keeps.refl _ _).alloc _) fun _ _ => id) _ 1 [.string k, .int .u64 a] rfl (src_new2 _ _ _ rfl rfl) (by simp only [maxLen]; omega) (by omega) ?_)
        rintro v2 w2 r2 k2 n2
        have q2 : Keeps (fun b => (Value.slice va1 (delL L k).length vc1).ownBlock = Option.some b) w1 w2 := ((Keeps.refl _ _).alloc _).trans' k2 fun _ _ h => h
        have m2 : ∀ b, v2.ownBlock = Option.some b → (Value.slice va1 (delL L k).length vc1).ownBlock = Option.some b ∨ w1.heap.size ≤ b := fun b hb => (n2 b hb).imp id fun h => by first | omega | (simp at h; omega)
        obtain ⟨va2, vc2, rfl, _⟩ := r2.val
        have ho2 := (q2.block r hrl1 fun e => G1.out.ne e).trans G1.out.own
        have hc2 : w2.cell? ⟨r, 0, none⟩ = some (.slice va1 (delL L k).length vc1) := by rw [cell_at ho2]; rfl
        have hf2 : w2.frozen? ⟨r, 0, none⟩ = false := free_at ho2 _
        have hrl2 : r < w2.heap.size := Nat.lt_of_lt_of_le hrl1 q2.size
        have hne2 : (Value.slice va2 ((delL L k).length + 1) vc2).ownBlock ≠ Option.some r := fun e => (m2 r e).elim (fun h => G1.out.ne h) (fun h => by omega)
        have hfin : RefOut w1 r (.slice va1 (delL L k).length vc1) (setL L k a) (w2.setCell ⟨r, 0, none⟩ (.slice va2 ((delL L k).length + 1) vc2)) := by
          refine ⟨⟨_, ⟨by rw [block_same ho2]; rfl, ?_, hne2⟩, m2⟩, (q2.mono fun b _ hb => .inr hb).setCell (p := ⟨r, 0, none⟩) (fun _ => .inl rfl) _⟩
          have := r2.keeps (F := fun b => b = r) ((Keeps.refl (fun b => b = r) w2).setCell (p := ⟨r, 0, none⟩) (fun _ => rfl) (.slice va2 ((delL L k).length + 1) vc2)) fun b hb e => by subst e; exact hne2 hb
          rw [show flatL (delL L k) ++ [Value.string k, Value.int .u64 a] = flatL (setL L k a) by rw [HSL.out, flatL_append]; rfl] at this
          rw [HSL.out, List.length_append, List.length_singleton, ← HSL.out]
          exact this
        have HF := Lib.hid (hfin)
        clear hfin r2 k2 n2 q2 m2 ho2 hne2
        go_wp2
        all_goals
          go_ret
          exact ⟨rfl, RefOut.seq G1.out G2.out G3.out HF.out⟩
    · have h24' : ¬ (L.length : Int) = 1024 := by omega
      have e1 : setE L k = 0 := by simp [setE, hbf, h24]
      have HSL := Lib.hid (show setL L k a = delL L k ++ [(k, a)] by simp [setL, e1])
      rw [show setE L k = 0 from e1]
      clear hset h hbf
      go_enter Try.func19, Try.ntmps19
      go_wp2_with fail
      refine (C15.out e1).mono ?_; rintro e w1 ⟨rfl, ho⟩
      obtain ⟨⟨sv1, g1, g2⟩, g3⟩ := ho
      obtain ⟨va1, vc1, rfl, _⟩ := g1.row.val
      have hc1 : w1.cell? ⟨r, 0, none⟩ = some (.slice va1 (delL L k).length vc1) := by rw [cell_at g1.own]; rfl
      have hrl1 := g1.lt
      have hdl : (delL L k).length ≤ 1024 := Nat.le_trans (delL_length_le L k) hl
      have G1 := Lib.hid g1
      have G2 := Lib.hid g2
      have G3 := Lib.hid g3
      clear g1 g2 g3 hc C15
      go_wp2_with (at_builtin; refine wpList_app_rowN rfl _ _ 36 36 rfl 70 i70 _ 24 Try.underlying36 hi hz0 hz1 hz2 rfl (.slice va1 (delL L k).length vc1) (delL L k).length (flatL (delL L k)) rfl (G1.out.row.keeps (F := fun _ => False) ((Keeps.refl _ _).alloc _) fun _ _ => id) _ 1 [.string k, .int .u64 a] rfl (src_new2 _ _ _ rfl rfl) (by simp only [maxLen]; omega) (by omega) ?_)
      rintro v2 w2 r2 k2 n2
      have q2 : Keeps (fun b => (Value.slice va1 (delL L k).length vc1).ownBlock = Option.some b) w1 w2 := ((Keeps.refl _ _).alloc _).trans' k2 fun _ _ h => h
      have m2 : ∀ b, v2.ownBlock = Option.some b → (Value.slice va1 (delL L k).length vc1).ownBlock = Option.some b ∨ w1.heap.size ≤ b := fun b hb => (n2 b hb).imp id fun h => by first | omega | (simp at h; omega)
      obtain ⟨va2, vc2, rfl, _⟩ := r2.val
      have ho2 := (q2.block r hrl1 fun e => G1.out.ne e).trans G1.out.own
      have hc2 : w2.cell? ⟨r, 0, none⟩ = some (.slice va1 (delL L k).length vc1) := by rw [cell_at ho2]; rfl
      have hf2 : w2.frozen? ⟨r, 0, none⟩ = false := free_at ho2 _
      have hrl2 : r < w2.heap.size := Nat.lt_of_lt_of_le hrl1 q2.size
      have hne2 : (Value.slice va2 ((delL L k).length + 1) vc2).ownBlock ≠ Option.some r := fun e => (m2 r e).elim (fun h => G1.out.ne h) (fun h => by omega)
      have hfin : RefOut w1 r (.slice va1 (delL L k).length vc1) (setL L k a) (w2.setCell ⟨r, 0, none⟩ (.slice va2 ((delL L k).length + 1) vc2)) := by
        refine ⟨⟨_, ⟨by rw [block_same ho2]; rfl, ?_, hne2⟩, m2⟩, (q2.mono fun b _ hb => .inr hb).setCell (p := ⟨r, 0, none⟩) (fun _ => .inl rfl) _⟩
        have := r2.keeps (F := fun b => b = r) ((Keeps.refl (fun b => b = r) w2).setCell (p := ⟨r, 0, none⟩) (fun _ => rfl) (.slice va2 ((delL L k).length + 1) vc2)) fun b hb e => by subst e; exact hne2 hb
        rw [show flatL (delL L k) ++ [Value.string k, Value.int .u64 a] = flatL (setL L k a) by rw [HSL.out, flatL_append]; rfl] at this
        rw [HSL.out, List.length_append, List.length_singleton, ← HSL.out]
        exact this
      have HF := Lib.hid (hfin)
      clear hfin r2 k2 n2 q2 m2 ho2 hne2
      go_wp2
      all_goals
        go_ret
        exact ⟨rfl, RefOut.seq G1.out G2.out G3.out HF.out⟩
end Go.Proofs.Ytfecgibdhglhiaa
