/-
  Two timer objects in memory, apart from each other and from what is held: the contracts of timer over both.
  Conditions: as in the contracts over one.
-/
import Derived.Test.YtfecgibdhglhiaaNextWalk
import Derived.Test.YtfecgibdhglhiaaRow
namespace Go.Proofs.Ytfecgibdhglhiaa
open Go.RowKit
theorem row_of_owns {w : World} {base : Nat} {e : TypeId} {v : Value} {n : Nat} {xs : List Value} (h : w.ownsRow base e 1 v n xs) : RowAt w e v xs := by
  have hl : xs.length = n := by simpa using h.1
  rcases h.2 with ⟨h1, h2⟩ | ⟨b, c, cur, h1, _, h2, h3, h4, h5, h6⟩
  · exact .inl ⟨h1, List.eq_nil_of_length_eq_zero (by omega)⟩
  · subst hl
    exact .inr ⟨b, 0, c, cur, h1, h2, h3, h4, by rw [h5]; omega, by simpa using h6⟩
/-- What is in H, and what was there at first, stays. -/
def HK (w : World) (H : Nat → Prop) (a b : World) : Prop := Keeps (fun k => w.heap.size ≤ k ∧ ¬ H k) a b
theorem HK.refl (w : World) (H : Nat → Prop) (a : World) : HK w H a a := Keeps.refl _ _
theorem HK.trans {w : World} {H : Nat → Prop} {a b c : World} (h : HK w H a b) (k : HK w H b c) : HK w H a c := Keeps.trans h k
theorem HK.sub {w : World} {H G : Nat → Prop} {a b : World} (h : HK w H a b) (hs : ∀ k, G k → H k) : HK w G a b := h.mono fun k _ ⟨h1, h2⟩ => ⟨h1, fun g => h2 (hs k g)⟩
theorem HK.row {w : World} {H : Nat → Prop} {a b : World} (h : HK w H a b) {e : TypeId} {v : Value} {xs : List Value} (r : RowAt a e v xs) (hv : ∀ k, v.ownBlock = some k → H k) : RowAt b e v xs :=
  r.keeps h fun k hk ⟨_, hn⟩ => hn (hv k hk)
theorem HK.below {w : World} {H : Nat → Prop} {a b : World} (h : HK w H a b) : Keeps (fun k => w.heap.size ≤ k) a b := h.mono fun _ _ ⟨h1, _⟩ => h1
/-- Two that are apart, and apart from H. -/
def Two (w : World) (H : Nat → Prop) (p q : Nat) (L M : List IA) (j k : Nat) (wr : World) : Prop :=
  ∃ F G, Tm wr F p L j ∧ Tm wr G q M k ∧ (∀ b, F b → w.heap.size ≤ b ∧ ¬ G b ∧ ¬ H b) ∧ (∀ b, G b → w.heap.size ≤ b ∧ ¬ H b) ∧ (∀ b, H b → b < wr.heap.size) ∧ Keeps (fun _ => False) w wr
section
variable {w wr w2 : World} {H : Nat → Prop} {p q : Nat} {L M : List IA} {j k : Nat}
theorem Two.keeps (h : Two w H p q L M j k wr) : Keeps (fun _ => False) w wr := by obtain ⟨_, _, _, _, _, _, _, h⟩ := h; exact h
theorem Two.step (h : Two w H p q L M j k wr) (hk : Keeps (fun _ => False) wr w2) : Two w H p q L M j k w2 := by
  obtain ⟨F, G, h1, h2, h3, h4, h5, h6⟩ := h
  exact ⟨F, G, h1.keeps hk fun _ _ => id, h2.keeps hk fun _ _ => id, h3, h4, fun b hb => Nat.lt_of_lt_of_le (h5 b hb) hk.size, h6.trans hk⟩
/-- a row that is made apart is held from now on -/
theorem Two.hold (h : Two w H p q L M j k wr) {H' : Nat → Prop} (hn : ∀ b, H' b → H b ∨ (b < wr.heap.size ∧ ∀ F G, Tm wr F p L j → Tm wr G q M k → (∀ b, F b → w.heap.size ≤ b ∧ ¬ G b ∧ ¬ H b) → (∀ b, G b → w.heap.size ≤ b ∧ ¬ H b) → ¬ F b ∧ ¬ G b)) : Two w H' p q L M j k wr := by
  obtain ⟨F, G, h1, h2, h3, h4, h5, h6⟩ := h
  refine ⟨F, G, h1, h2, fun b hb => ⟨(h3 b hb).1, (h3 b hb).2.1, fun hh => ?_⟩, fun b hb => ⟨(h4 b hb).1, fun hh => ?_⟩, fun b hb => (hn b hb).elim (h5 b) fun x => x.1, h6⟩
  · rcases hn b hh with h7 | h7
    · exact (h3 b hb).2.2 h7
    · exact (h7.2 F G h1 h2 h3 h4).1 hb
  · rcases hn b hh with h7 | h7
    · exact (h4 b hb).2 h7
    · exact (h7.2 F G h1 h2 h3 h4).2 hb
theorem Two.first {F G : Nat → Prop} (h2 : Tm wr G q M k) (h3 : ∀ b, F b → w.heap.size ≤ b ∧ ¬ G b ∧ ¬ H b) (h4 : ∀ b, G b → w.heap.size ≤ b ∧ ¬ H b) (h5 : ∀ b, H b → b < wr.heap.size) (h6 : Keeps (fun _ => False) w wr)
    {F' : Nat → Prop} {L' : List IA} {j' : Nat} (g1 : Tm w2 F' p L' j') (g2 : ∀ b, F' b → F b ∨ wr.heap.size ≤ b) (g3 : Keeps F wr w2) : Two w H p q L' M j' k w2 ∧ HK w H wr w2 := by
  refine ⟨⟨F', G, g1, h2.keeps g3 fun b hb hf => (h3 b hf).2.1 hb, fun b hb => ?_, h4, fun b hb => Nat.lt_of_lt_of_le (h5 b hb) g3.size, h6.new g3 fun b hb => (h3 b hb).1⟩, g3.mono fun b _ hf => ⟨(h3 b hf).1, (h3 b hf).2.2⟩⟩
  rcases g2 b hb with h | h
  · exact h3 b h
  · exact ⟨Nat.le_trans h6.size h, fun hg => by have := h2.lt hg; omega, fun hh => by have := h5 b hh; omega⟩
theorem Two.second {F G : Nat → Prop} (h1 : Tm wr F p L j) (h3 : ∀ b, F b → w.heap.size ≤ b ∧ ¬ G b ∧ ¬ H b) (h4 : ∀ b, G b → w.heap.size ≤ b ∧ ¬ H b) (h5 : ∀ b, H b → b < wr.heap.size) (h6 : Keeps (fun _ => False) w wr)
    {G' : Nat → Prop} {M' : List IA} {k' : Nat} (g1 : Tm w2 G' q M' k') (g2 : ∀ b, G' b → G b ∨ wr.heap.size ≤ b) (g3 : Keeps G wr w2) : Two w H p q L M' j k' w2 ∧ HK w H wr w2 := by
  refine ⟨⟨F, G', h1.keeps g3 fun b hf hg => (h3 b hf).2.1 hg, g1, fun b hb => ⟨(h3 b hb).1, fun hg => ?_, (h3 b hb).2.2⟩, fun b hb => ?_, fun b hb => Nat.lt_of_lt_of_le (h5 b hb) g3.size, h6.new g3 fun b hb => (h4 b hb).1⟩, g3.mono fun b _ hg => h4 b hg⟩
  · rcases g2 b hg with h | h
    · exact (h3 b hb).2.1 h
    · have := h1.lt hb; omega
  · rcases g2 b hb with h | h
    · exact h4 b h
    · exact ⟨Nat.le_trans h6.size h, fun hh => by have := h5 b hh; omega⟩
theorem two_set1 (h : Two w H p q L M j k wr) (hl : L.length ≤ 1024) (hj : j < 1000000) (s : ByteArray) (a : Int) : Calls Try.prog 10 #[.pointer (some ⟨p, 0, none⟩), .string s, .int .u64 a] wr fun e w2 =>
    e = .returned (.int .i64 (setE L s)) ∧ Two w H p q (setL L s a) M (j + 1) k w2 ∧ HK w H wr w2 := by
  obtain ⟨F, G, h1, h2, h3, h4, h5, h6⟩ := h
  exact (setL_any h1 hl hj s a).mono fun e w2 ⟨he, ⟨F', g1, g2⟩, g3⟩ => ⟨he, Two.first h2 h3 h4 h5 h6 g1 g2 g3⟩
theorem two_set2 (h : Two w H p q L M j k wr) (hl : M.length ≤ 1024) (hj : k < 1000000) (s : ByteArray) (a : Int) : Calls Try.prog 10 #[.pointer (some ⟨q, 0, none⟩), .string s, .int .u64 a] wr fun e w2 =>
    e = .returned (.int .i64 (setE M s)) ∧ Two w H p q L (setL M s a) j (k + 1) w2 ∧ HK w H wr w2 := by
  obtain ⟨F, G, h1, h2, h3, h4, h5, h6⟩ := h
  exact (setL_any h2 hl hj s a).mono fun e w2 ⟨he, ⟨F', g1, g2⟩, g3⟩ => ⟨he, Two.second h1 h3 h4 h5 h6 g1 g2 g3⟩
theorem two_stop1 (h : Two w H p q L M j k wr) (hl : L.length ≤ 2000) (s : ByteArray) : Calls Try.prog 13 #[.pointer (some ⟨p, 0, none⟩), .string s] wr fun e w2 =>
    e = .returned (.bool (hasL L s)) ∧ Two w H p q (delL L s) M j k w2 ∧ HK w H wr w2 := by
  obtain ⟨F, G, h1, h2, h3, h4, h5, h6⟩ := h
  exact (stopL h1 hl s).mono fun e w2 ⟨he, ⟨F', g1, g2⟩, g3⟩ => ⟨he, Two.first h2 h3 h4 h5 h6 g1 (fun b hb => .inl (g2 b hb)) g3⟩
theorem two_stop2 (h : Two w H p q L M j k wr) (hl : M.length ≤ 2000) (s : ByteArray) : Calls Try.prog 13 #[.pointer (some ⟨q, 0, none⟩), .string s] wr fun e w2 =>
    e = .returned (.bool (hasL M s)) ∧ Two w H p q L (delL M s) j k w2 ∧ HK w H wr w2 := by
  obtain ⟨F, G, h1, h2, h3, h4, h5, h6⟩ := h
  exact (stopL h2 hl s).mono fun e w2 ⟨he, ⟨F', g1, g2⟩, g3⟩ => ⟨he, Two.second h1 h3 h4 h5 h6 g1 (fun b hb => .inl (g2 b hb)) g3⟩
/-- with what was told held -/
def HV (H : Nat → Prop) (v : Value) (b : Nat) : Prop := H b ∨ v.ownBlock = some b
theorem two_due1 (h : Two w H p q L M j k wr) (hl : L.length ≤ 2000) (now : Int) : Calls Try.prog 11 #[.pointer (some ⟨p, 0, none⟩), .int .u64 now] wr fun e w2 =>
    ∃ sv, e = .returned sv ∧ RowAt w2 9 sv ((dueL now L).1.map strV) ∧ Two w (HV H sv) p q (dueL now L).2 M j k w2 ∧ HK w H wr w2 := by
  obtain ⟨F, G, h1, h2, h3, h4, h5, h6⟩ := h
  refine (dueL_any h1 hl now).mono ?_
  rintro e w2 ⟨⟨sv, rfl, ho, _⟩, ⟨F', g1, g2⟩, g3⟩
  obtain ⟨t1, t2⟩ := Two.first h2 h3 h4 h5 h6 g1 (fun b hb => .inl (g2 b hb)) g3
  refine ⟨sv, rfl, row_of_owns ho, ?_, t2⟩
  obtain ⟨F2, G2, a1, a2, a3, a4, a5, a6⟩ := t1
  refine ⟨F', G, g1, h2.keeps g3 fun b hb hf => (h3 b hf).2.1 hb, fun b hb => ⟨(h3 b (g2 b hb)).1, (h3 b (g2 b hb)).2.1, fun hh => ?_⟩, fun b hb => ⟨(h4 b hb).1, fun hh => ?_⟩, fun b hb => ?_, a6⟩
  · rcases hh with hh | hh
    · exact (h3 b (g2 b hb)).2.2 hh
    · have := (ho.lt b hh).1; have := h1.lt (g2 b hb); omega
  · rcases hh with hh | hh
    · exact (h4 b hb).2 hh
    · have := (ho.lt b hh).1; have := h2.lt hb; omega
  · rcases hb with hb | hb
    · exact a5 b hb
    · exact (ho.lt b hb).2
theorem two_due2 (h : Two w H p q L M j k wr) (hl : M.length ≤ 2000) (now : Int) : Calls Try.prog 11 #[.pointer (some ⟨q, 0, none⟩), .int .u64 now] wr fun e w2 =>
    ∃ sv, e = .returned sv ∧ RowAt w2 9 sv ((dueL now M).1.map strV) ∧ Two w (HV H sv) p q L (dueL now M).2 j k w2 ∧ HK w H wr w2 := by
  obtain ⟨F, G, h1, h2, h3, h4, h5, h6⟩ := h
  refine (dueL_any h2 hl now).mono ?_
  rintro e w2 ⟨⟨sv, rfl, ho, _⟩, ⟨G', g1, g2⟩, g3⟩
  obtain ⟨t1, t2⟩ := Two.second h1 h3 h4 h5 h6 g1 (fun b hb => .inl (g2 b hb)) g3
  refine ⟨sv, rfl, row_of_owns ho, ?_, t2⟩
  obtain ⟨F2, G2, a1, a2, a3, a4, a5, a6⟩ := t1
  refine ⟨F, G', h1.keeps g3 fun b hf hg => (h3 b hf).2.1 hg, g1, fun b hb => ⟨(h3 b hb).1, fun hg => (h3 b hb).2.1 (g2 b hg), fun hh => ?_⟩, fun b hb => ⟨(h4 b (g2 b hb)).1, fun hh => ?_⟩, fun b hb => ?_, a6⟩
  · rcases hh with hh | hh
    · exact (h3 b hb).2.2 hh
    · have := (ho.lt b hh).1; have := h1.lt hb; omega
  · rcases hh with hh | hh
    · exact (h4 b (g2 b hb)).2 hh
    · have := (ho.lt b hh).1; have := h2.lt (g2 b hb); omega
  · rcases hb with hb | hb
    · exact a5 b hb
    · exact (ho.lt b hb).2
theorem two_len1 (h : Two w H p q L M j k wr) : Calls Try.prog 12 #[.pointer (some ⟨p, 0, none⟩)] wr fun e w' => e = .returned (.int .i64 L.length) ∧ wr = w' := by
  obtain ⟨F, G, h1, _⟩ := h; exact lenL h1
theorem two_len2 (h : Two w H p q L M j k wr) : Calls Try.prog 12 #[.pointer (some ⟨q, 0, none⟩)] wr fun e w' => e = .returned (.int .i64 M.length) ∧ wr = w' := by
  obtain ⟨F, G, _, h1, _⟩ := h; exact lenL h1
theorem two_at1 (h : Two w H p q L M j k wr) (s : ByteArray) : Calls Try.prog 17 #[.pointer (some ⟨p, 0, none⟩), .string s] wr fun e w' => e = .returned (.tuple #[.int .u64 ((atL L s).getD 0), .bool (atL L s).isSome]) ∧ wr = w' := by
  obtain ⟨F, G, h1, _⟩ := h; exact atL_any h1 s
theorem two_new (hk : Keeps (fun _ => False) w wr) {p : Nat} {F : Nat → Prop} (h : Tm wr F p [] 0) (hf : ∀ b, F b → w.heap.size ≤ b) : Calls Try.prog 9 #[] wr fun e w2 =>
    ∃ q, e = .returned (.pointer (some ⟨q, 0, none⟩)) ∧ Two w (fun _ => False) p q [] [] 0 0 w2 := by
  refine (newL wr).mono ?_
  rintro e w2 ⟨q, G, rfl, g1, g2, g3⟩
  exact ⟨q, rfl, F, G, h.keeps g3 fun _ _ => id, g1, fun b hb => ⟨hf b hb, fun hg => by have := g2 b hg; have := h.lt hb; omega, id⟩, fun b hb => ⟨Nat.le_trans hk.size (g2 b hb), id⟩, fun _ h => h.elim, hk.trans g3⟩
end
end Go.Proofs.Ytfecgibdhglhiaa
