/-
  A timer object and the document's timers in memory, apart from each other and from what is held: the contracts of both over both.
  Conditions: as in the contracts over one.
-/
import Derived.Test.YtfecgibdhglhiaaRefId
import Derived.Test.YtfecgibdhglhiaaTwo
namespace Go.Proofs.Ytfecgibdhglhiaa
open Go.RowKit
def PT (w : World) (H : Nat → Prop) (p r : Nat) (L M : List IA) (j : Nat) (wr : World) : Prop :=
  ∃ (F : Nat → Prop) (sv : Value), Tm wr F p L j ∧ RefAt wr r sv M ∧ w.heap.size ≤ r ∧ (∀ b, sv.ownBlock = some b → w.heap.size ≤ b) ∧
    (∀ b, F b → w.heap.size ≤ b ∧ b ≠ r ∧ sv.ownBlock ≠ some b ∧ ¬ H b) ∧ (∀ b, H b → b < wr.heap.size ∧ b ≠ r ∧ sv.ownBlock ≠ some b) ∧ Keeps (fun _ => False) w wr
section
variable {w wr w2 : World} {H : Nat → Prop} {p r : Nat} {L M : List IA} {j : Nat}
theorem PT.keeps (h : PT w H p r L M j wr) : Keeps (fun _ => False) w wr := by obtain ⟨_, _, _, _, _, _, _, _, h⟩ := h; exact h
theorem PT.step (h : PT w H p r L M j wr) (hk : Keeps (fun _ => False) wr w2) : PT w H p r L M j w2 := by
  obtain ⟨F, sv, h1, h2, h3, h4, h5, h6, h7⟩ := h
  exact ⟨F, sv, h1.keeps hk fun _ _ => id, h2.keeps hk id fun _ _ => id, h3, h4, h5, fun b hb => ⟨Nat.lt_of_lt_of_le (h6 b hb).1 hk.size, (h6 b hb).2⟩, h7.trans hk⟩
/-- what is new is held from now on, besides what was -/
theorem PT.hold (h : PT w H p r L M j wr) (hk : Keeps (fun _ => False) wr w2) {H' : Nat → Prop} (hn : ∀ b, H' b → H b ∨ (wr.heap.size ≤ b ∧ b < w2.heap.size)) : PT w H' p r L M j w2 := by
  obtain ⟨F, sv, h1, h2, h3, h4, h5, h6, h7⟩ := h
  refine ⟨F, sv, h1.keeps hk fun _ _ => id, h2.keeps hk id fun _ _ => id, h3, h4, fun b hb => ⟨(h5 b hb).1, (h5 b hb).2.1, (h5 b hb).2.2.1, fun hh => ?_⟩, fun b hb => ?_, h7.trans hk⟩
  · rcases hn b hh with h8 | h8
    · exact (h5 b hb).2.2.2 h8
    · have := h1.lt hb; omega
  · rcases hn b hb with h8 | h8
    · exact ⟨Nat.lt_of_lt_of_le (h6 b h8).1 hk.size, (h6 b h8).2⟩
    · exact ⟨h8.2, fun e => by have := h2.lt; omega, fun e => by have := h2.row.lt e; omega⟩
theorem PT.first {F : Nat → Prop} {sv : Value} (h2 : RefAt wr r sv M) (h3 : w.heap.size ≤ r) (h4 : ∀ b, sv.ownBlock = some b → w.heap.size ≤ b) (h5 : ∀ b, F b → w.heap.size ≤ b ∧ b ≠ r ∧ sv.ownBlock ≠ some b ∧ ¬ H b)
    (h6 : ∀ b, H b → b < wr.heap.size ∧ b ≠ r ∧ sv.ownBlock ≠ some b) (h7 : Keeps (fun _ => False) w wr)
    {F' : Nat → Prop} {L' : List IA} {j' : Nat} (g1 : Tm w2 F' p L' j') (g2 : ∀ b, F' b → F b ∨ wr.heap.size ≤ b) (g3 : Keeps F wr w2) : PT w H p r L' M j' w2 ∧ HK w H wr w2 := by
  refine ⟨⟨F', sv, g1, h2.keeps g3 (fun hf => (h5 r hf).2.1 rfl) fun b hb hf => (h5 b hf).2.2.1 hb, h3, h4, fun b hb => ?_, fun b hb => ⟨Nat.lt_of_lt_of_le (h6 b hb).1 g3.size, (h6 b hb).2⟩, h7.new g3 fun b hb => (h5 b hb).1⟩, g3.mono fun b _ hf => ⟨(h5 b hf).1, (h5 b hf).2.2.2⟩⟩
  rcases g2 b hb with h | h
  · exact h5 b h
  · exact ⟨Nat.le_trans h7.size h, fun e => by have := h2.lt; omega, fun e => by have := h2.row.lt e; omega, fun hh => by have := (h6 b hh).1; omega⟩
theorem PT.second {F : Nat → Prop} {sv : Value} (h1 : Tm wr F p L j) (h3 : w.heap.size ≤ r) (h4 : ∀ b, sv.ownBlock = some b → w.heap.size ≤ b) (h5 : ∀ b, F b → w.heap.size ≤ b ∧ b ≠ r ∧ sv.ownBlock ≠ some b ∧ ¬ H b)
    (h6 : ∀ b, H b → b < wr.heap.size ∧ b ≠ r ∧ sv.ownBlock ≠ some b) (h7 : Keeps (fun _ => False) w wr)
    {M' : List IA} (g : RefOut wr r sv M' w2) : PT w H p r L M' j w2 ∧ HK w H wr w2 := by
  obtain ⟨⟨s2, g1, g2⟩, g3⟩ := g
  refine ⟨⟨F, s2, h1.keeps g3 fun b hf hh => ?_, g1, h3, fun b hb => ?_, fun b hb => ⟨(h5 b hb).1, (h5 b hb).2.1, fun e => ?_, (h5 b hb).2.2.2⟩, fun b hb => ⟨Nat.lt_of_lt_of_le (h6 b hb).1 g3.size, (h6 b hb).2.1, fun e => ?_⟩, h7.new g3 fun b hb => ?_⟩, g3.mono fun b _ hf => ⟨?_, fun hh => ?_⟩⟩
  · rcases hh with hh | hh
    · exact (h5 b hf).2.1 hh
    · exact (h5 b hf).2.2.1 hh
  · rcases g2 b hb with h | h
    · exact h4 b h
    · exact Nat.le_trans h7.size h
  · rcases g2 b e with h | h
    · exact (h5 b hb).2.2.1 h
    · have := h1.lt hb; omega
  · rcases g2 b e with h | h
    · exact (h6 b hb).2.2 h
    · have := (h6 b hb).1; omega
  · rcases hb with rfl | hb
    · exact h3
    · exact h4 b hb
  · rcases hf with rfl | hf
    · exact h3
    · exact h4 b hf
  · rcases hf with hf | hf
    · exact (h6 b hh).2.1 hf
    · exact (h6 b hh).2.2 hf
theorem pt_stop (h : PT w H p r L M j wr) (hl : L.length ≤ 2000) (s : ByteArray) : Calls Try.prog 13 #[.pointer (some ⟨p, 0, none⟩), .string s] wr fun e w2 =>
    e = .returned (.bool (hasL L s)) ∧ PT w H p r (delL L s) M j w2 ∧ HK w H wr w2 := by
  obtain ⟨F, sv, h1, h2, h3, h4, h5, h6, h7⟩ := h
  exact (stopL h1 hl s).mono fun e w2 ⟨he, ⟨F', g1, g2⟩, g3⟩ => ⟨he, PT.first h2 h3 h4 h5 h6 h7 g1 (fun b hb => .inl (g2 b hb)) g3⟩
theorem pt_rstop (h : PT w H p r L M j wr) (hu : Uniq M) (hl : M.length ≤ 2000) (s : ByteArray) : Calls Try.prog 15 #[.pointer (some ⟨r, 0, none⟩), .string s] wr fun e w2 =>
    e = .returned (.bool (hasL M s)) ∧ PT w H p r L (delL M s) j w2 ∧ HK w H wr w2 := by
  obtain ⟨F, sv, h1, h2, h3, h4, h5, h6, h7⟩ := h
  exact (rStop' h2 hu hl s).mono fun e w2 ⟨he, g⟩ => ⟨he, PT.second h1 h3 h4 h5 h6 h7 g⟩
theorem pt_set (h : PT w H p r L M j wr) (hl : L.length ≤ 1024) (hj : j < 1000000) (s : ByteArray) (a : Int) : Calls Try.prog 10 #[.pointer (some ⟨p, 0, none⟩), .string s, .int .u64 a] wr fun e w2 =>
    e = .returned (.int .i64 (setE L s)) ∧ PT w H p r (setL L s a) M (j + 1) w2 ∧ HK w H wr w2 := by
  obtain ⟨F, sv, h1, h2, h3, h4, h5, h6, h7⟩ := h
  exact (setL_any h1 hl hj s a).mono fun e w2 ⟨he, ⟨F', g1, g2⟩, g3⟩ => ⟨he, PT.first h2 h3 h4 h5 h6 h7 g1 g2 g3⟩
theorem pt_rset (h : PT w H p r L M j wr) (hu : Uniq M) (hl : M.length ≤ 1024) (s : ByteArray) (a : Int) : Calls Try.prog 19 #[.pointer (some ⟨r, 0, none⟩), .string s, .int .u64 a] wr fun e w2 =>
    e = .returned (.int .i64 (setE M s)) ∧ PT w H p r L (setL M s a) j w2 ∧ HK w H wr w2 := by
  obtain ⟨F, sv, h1, h2, h3, h4, h5, h6, h7⟩ := h
  exact (rSet h2 hu hl s a).mono fun e w2 ⟨he, g⟩ => ⟨he, PT.second h1 h3 h4 h5 h6 h7 g⟩
theorem pt_at (h : PT w H p r L M j wr) (s : ByteArray) : Calls Try.prog 17 #[.pointer (some ⟨p, 0, none⟩), .string s] wr fun e w' => e = .returned (.tuple #[.int .u64 ((atL L s).getD 0), .bool (atL L s).isSome]) ∧ wr = w' := by
  obtain ⟨F, sv, h1, _⟩ := h; exact atL_any h1 s
theorem pt_rat (h : PT w H p r L M j wr) (hl : M.length ≤ 2000) (s : ByteArray) : Calls Try.prog 18 #[.pointer (some ⟨r, 0, none⟩), .string s] wr fun e w' => e = .returned (.tuple #[.int .u64 ((atL M s).getD 0), .bool (atL M s).isSome]) ∧ wr = w' := by
  obtain ⟨F, sv, h1, h2, _⟩ := h; exact rAt h2 hl s
theorem pt_next (h : PT w H p r L M j wr) : Calls Try.prog 20 #[.pointer (some ⟨p, 0, none⟩)] wr fun e w' => e = .returned (nextV (minL L)) ∧ Keeps (fun _ => False) wr w' := by
  obtain ⟨F, sv, h1, _⟩ := h
  exact (nextL h1).mono fun e w' ⟨he, n, hn⟩ => ⟨he, by rw [hn]; exact (Keeps.refl _ _).drewN n⟩
theorem pt_rnext (h : PT w H p r L M j wr) (hl : M.length ≤ 2000) : Calls Try.prog 21 #[.pointer (some ⟨r, 0, none⟩)] wr fun e w' => e = .returned (nextV (minL M)) ∧ Keeps (fun _ => False) wr w' := by
  obtain ⟨F, sv, h1, h2, _⟩ := h; exact rNext h2 hl
theorem pt_len (h : PT w H p r L M j wr) : Calls Try.prog 12 #[.pointer (some ⟨p, 0, none⟩)] wr fun e w' => e = .returned (.int .i64 L.length) ∧ wr = w' := by
  obtain ⟨F, sv, h1, _⟩ := h; exact lenL h1
theorem pt_due (h : PT w H p r L M j wr) (hl : L.length ≤ 2000) (now : Int) : Calls Try.prog 11 #[.pointer (some ⟨p, 0, none⟩), .int .u64 now] wr fun e w2 =>
    ∃ av, e = .returned av ∧ RowAt w2 9 av ((dueL now L).1.map strV) ∧ PT w (HV H av) p r (dueL now L).2 M j w2 ∧ HK w H wr w2 := by
  obtain ⟨F, sv, h1, h2, h3, h4, h5, h6, h7⟩ := h
  refine (dueL_any h1 hl now).mono ?_
  rintro e w2 ⟨⟨av, rfl, ho, _⟩, ⟨F', g1, g2⟩, g3⟩
  obtain ⟨t1, t2⟩ := PT.first h2 h3 h4 h5 h6 h7 g1 (fun b hb => .inl (g2 b hb)) g3
  refine ⟨av, rfl, row_of_owns ho, ?_, t2⟩
  refine ⟨F', sv, g1, h2.keeps g3 (fun hf => (h5 r hf).2.1 rfl) fun b hb hf => (h5 b hf).2.2.1 hb, h3, h4, fun b hb => ⟨(h5 b (g2 b hb)).1, (h5 b (g2 b hb)).2.1, (h5 b (g2 b hb)).2.2.1, fun hh => ?_⟩, fun b hb => ?_, t1.keeps⟩
  · rcases hh with hh | hh
    · exact (h5 b (g2 b hb)).2.2.2 hh
    · have := (ho.lt b hh).1; have := h1.lt (g2 b hb); omega
  · rcases hb with hb | hb
    · exact ⟨Nat.lt_of_lt_of_le (h6 b hb).1 g3.size, (h6 b hb).2⟩
    · have h8 := ho.lt b hb
      exact ⟨h8.2, fun e => by have := h2.lt; omega, fun e => by have := h2.row.lt e; omega⟩
theorem pt_rdue (h : PT w H p r L M j wr) (hu : Uniq M) (hl : M.length ≤ 2000) (now : Int) : Calls Try.prog 16 #[.pointer (some ⟨r, 0, none⟩), .int .u64 now] wr fun e w2 =>
    ∃ ov, e = .returned ov ∧ RowAt w2 9 ov ((dueL now M).1.map strV) ∧ PT w H p r L (dueL now M).2 j w2 ∧ HK w H wr w2 := by
  obtain ⟨F, sv, h1, h2, h3, h4, h5, h6, h7⟩ := h
  refine (rDue h2 hu hl now).mono ?_
  rintro e w2 ⟨ov, s1, rfl, a1, a2, a3, a4, a5⟩
  obtain ⟨t1, t2⟩ := PT.second (M' := (dueL now M).2) h1 h3 h4 h5 h6 h7 ⟨⟨s1, a2, a3⟩, a5⟩
  exact ⟨ov, rfl, a1, t1, t2⟩
end
end Go.Proofs.Ytfecgibdhglhiaa
