/-
  One timer object in memory and three slices beside it, apart from it and from each other; the plain law of the order in which timers fall due.
  Conditions: none of its own.
-/
import Derived.Test.YtfecgibdhglhiaaTwo
namespace Go.Proofs.Ytfecgibdhglhiaa
open Go.RowKit
/-- The object at p holds L; lv, ov, nv read ll, ol, nl; what may be written of them is apart. -/
structure OS (w : World) (p : Nat) (L : List IA) (j : Nat) (lv : Value) (ll : List Value) (ov : Value) (ol : List Value) (nv : Value) (nl : List Value) (wr : World) : Prop where
  tm : ∃ F, Tm wr F p L j ∧ ∀ b, F b → w.heap.size ≤ b ∧ lv.ownBlock ≠ some b ∧ ov.ownBlock ≠ some b ∧ nv.ownBlock ≠ some b
  rl : RowAt wr 5 lv ll
  ro : RowAt wr 3 ov ol
  rn : RowAt wr 9 nv nl
  ho : ∀ b, ov.ownBlock = some b → w.heap.size ≤ b ∧ lv.ownBlock ≠ some b ∧ nv.ownBlock ≠ some b
  hn : ∀ b, nv.ownBlock = some b → w.heap.size ≤ b ∧ lv.ownBlock ≠ some b
  keeps : Keeps (fun _ => False) w wr
section
variable {w wr w2 : World} {p : Nat} {L : List IA} {j : Nat} {lv ov nv : Value} {ll ol nl : List Value}
theorem OS.step (h : OS w p L j lv ll ov ol nv nl wr) (k : Keeps (fun _ => False) wr w2) : OS w p L j lv ll ov ol nv nl w2 := by
  obtain ⟨⟨F, t1, t2⟩, h2, h3, h4, h5, h6, h7⟩ := h
  exact ⟨⟨F, t1.keeps k fun _ _ => id, t2⟩, h2.keeps k fun _ _ => id, h3.keeps k fun _ _ => id, h4.keeps k fun _ _ => id, h5, h6, h7.trans k⟩
theorem OS.set (h : OS w p L j lv ll ov ol nv nl wr) (hl : L.length ≤ 1024) (hj : j < 1000000) (s : ByteArray) (a : Int) : Calls Try.prog 10 #[.pointer (some ⟨p, 0, none⟩), .string s, .int .u64 a] wr fun e w2 =>
    e = .returned (.int .i64 (setE L s)) ∧ OS w p (setL L s a) (j + 1) lv ll ov ol nv nl w2 := by
  obtain ⟨⟨F, t1, t2⟩, h2, h3, h4, h5, h6, h7⟩ := h
  refine (setL_any t1 hl hj s a).mono fun e w2 ⟨he, ⟨F', g1, g2⟩, g3⟩ => ⟨he, ⟨F', g1, fun b hb => ?_⟩, h2.keeps g3 fun b hb hf => (t2 b hf).2.1 hb, h3.keeps g3 fun b hb hf => (t2 b hf).2.2.1 hb, h4.keeps g3 fun b hb hf => (t2 b hf).2.2.2 hb, h5, h6, h7.new g3 fun b hb => (t2 b hb).1⟩
  rcases g2 b hb with h | h
  · exact t2 b h
  · exact ⟨Nat.le_trans h7.size h, fun e => by have := h2.lt e; omega, fun e => by have := h3.lt e; omega, fun e => by have := h4.lt e; omega⟩
theorem OS.due (h : OS w p L j lv ll ov ol nv nl wr) (hl : L.length ≤ 2000) (now : Int) : Calls Try.prog 11 #[.pointer (some ⟨p, 0, none⟩), .int .u64 now] wr fun e w2 =>
    ∃ sv, e = .returned sv ∧ RowAt w2 9 sv ((dueL now L).1.map strV) ∧ OS w p (dueL now L).2 j lv ll ov ol nv nl w2 := by
  obtain ⟨⟨F, t1, t2⟩, h2, h3, h4, h5, h6, h7⟩ := h
  refine (dueL_any t1 hl now).mono fun e w2 ⟨⟨sv, he, ho, _⟩, ⟨F', g1, g2⟩, g3⟩ => ⟨sv, he, row_of_owns ho, ⟨F', g1, fun b hb => t2 b (g2 b hb)⟩, h2.keeps g3 fun b hb hf => (t2 b hf).2.1 hb, h3.keeps g3 fun b hb hf => (t2 b hf).2.2.1 hb, h4.keeps g3 fun b hb hf => (t2 b hf).2.2.2 hb, h5, h6, h7.new g3 fun b hb => (t2 b hb).1⟩
theorem OS.len (h : OS w p L j lv ll ov ol nv nl wr) : Calls Try.prog 12 #[.pointer (some ⟨p, 0, none⟩)] wr fun e w' => e = .returned (.int .i64 L.length) ∧ wr = w' := by
  obtain ⟨⟨F, t1, t2⟩, _⟩ := h; exact lenL t1
/-- append onto the second -/
theorem OS.appO (h : OS w p L j lv ll ov ol nv nl wr) {ov' : Value} {ol' : List Value} (k : Keeps (fun b => ov.ownBlock = some b) wr w2) (r : RowAt w2 3 ov' ol') (hb : ∀ b, ov'.ownBlock = some b → ov.ownBlock = some b ∨ wr.heap.size ≤ b) : OS w p L j lv ll ov' ol' nv nl w2 := by
  obtain ⟨⟨F, t1, t2⟩, h2, h3, h4, h5, h6, h7⟩ := h
  refine ⟨⟨F, t1.keeps k fun b hf he => (t2 b hf).2.2.1 he, fun b hf => ⟨(t2 b hf).1, (t2 b hf).2.1, fun e => ?_, (t2 b hf).2.2.2⟩⟩, h2.keeps k fun b hl ho => (h5 b ho).2.1 hl, r, h4.keeps k fun b hl ho => (h5 b ho).2.2 hl, fun b e => ?_, h6, h7.new k fun b hb => (h5 b hb).1⟩
  · rcases hb b e with h | h
    · exact (t2 b hf).2.2.1 h
    · have := t1.lt hf; omega
  · rcases hb b e with h | h
    · exact h5 b h
    · exact ⟨Nat.le_trans h7.size h, fun e => by have := h2.lt e; omega, fun e => by have := h4.lt e; omega⟩
/-- append onto the third -/
theorem OS.appN (h : OS w p L j lv ll ov ol nv nl wr) {nv' : Value} {nl' : List Value} (k : Keeps (fun b => nv.ownBlock = some b) wr w2) (r : RowAt w2 9 nv' nl') (hb : ∀ b, nv'.ownBlock = some b → nv.ownBlock = some b ∨ wr.heap.size ≤ b) : OS w p L j lv ll ov ol nv' nl' w2 := by
  obtain ⟨⟨F, t1, t2⟩, h2, h3, h4, h5, h6, h7⟩ := h
  refine ⟨⟨F, t1.keeps k fun b hf he => (t2 b hf).2.2.2 he, fun b hf => ⟨(t2 b hf).1, (t2 b hf).2.1, (t2 b hf).2.2.1, fun e => ?_⟩⟩, h2.keeps k fun b hl ho => (h6 b ho).2 hl, h3.keeps k fun b hl ho => (h5 b hl).2.2 ho, r, fun b e => ⟨(h5 b e).1, (h5 b e).2.1, fun e2 => ?_⟩, fun b e => ?_, h7.new k fun b hb => (h6 b hb).1⟩
  · rcases hb b e with h | h
    · exact (t2 b hf).2.2.2 h
    · have := t1.lt hf; omega
  · rcases hb b e2 with h | h
    · exact (h5 b e).2.2 h
    · have := h3.lt e; omega
  · rcases hb b e with h | h
    · exact h6 b h
    · exact ⟨Nat.le_trans h7.size h, fun e => by have := h2.lt e; omega⟩
/-- a new second one -/
theorem OS.newO (h : OS w p L j lv ll ov ol nv nl wr) {ov' : Value} {ol' : List Value} (k : Keeps (fun _ => False) wr w2) (r : RowAt w2 3 ov' ol') (hb : ∀ b, ov'.ownBlock = some b → wr.heap.size ≤ b) : OS w p L j lv ll ov' ol' nv nl w2 := by
  have h' := h.step k
  obtain ⟨⟨F, t1, t2⟩, h2, h3, h4, h5, h6, h7⟩ := h
  obtain ⟨⟨G, s1, s2⟩, g2, g3, g4, g5, g6, g7⟩ := h'
  refine ⟨⟨F, t1.keeps k fun _ _ => id, fun b hf => ⟨(t2 b hf).1, (t2 b hf).2.1, fun e => ?_, (t2 b hf).2.2.2⟩⟩, g2, r, g4, fun b e => ?_, g6, g7⟩
  · have := hb b e; have := t1.lt hf; omega
  · have h8 := hb b e
    exact ⟨Nat.le_trans h7.size h8, fun e => by have := h2.lt e; omega, fun e => by have := h4.lt e; omega⟩
end
/-- the first of a row of cells -/
theorem RowAt.take {w : World} {e : TypeId} {b off m c : Nat} {xs : List Value} (h : RowAt w e (.slice (some ⟨b, off, none⟩) m c) xs) {k : Nat} (hk : k ≤ xs.length) : RowAt w e (.slice (some ⟨b, off, none⟩) k c) (xs.take k) := by
  rcases h with ⟨h1, _⟩ | ⟨b', off', c', cur, h1, h2, h3, h4, h5, h6⟩
  · cases h1
  · simp only [Value.slice.injEq, Option.some.injEq, Addr.mk.injEq, and_true] at h1
    obtain ⟨⟨rfl, rfl⟩, _, rfl⟩ := h1
    refine .inr ⟨b, off, c, cur, by rw [List.length_take, Nat.min_eq_left hk], h2, by rw [List.length_take]; omega, h4, h5, ?_⟩
    rw [List.length_take, Nat.min_eq_left hk]
    have := congrArg (List.take k) h6
    rwa [List.take_take, Nat.min_eq_left hk] at this
/-- What falls due up to n, of timers f i set in the order os: by their times, those of one time in that order. -/
def wantL (f : Nat → Int) (os : List Nat) (n : Nat) : List ByteArray := (List.range n).flatMap fun (a : Nat) => (os.filter fun i => decide (f i = (a : Int))).map key1
theorem wantL_eq (f : Nat → Int) (os : List Nat) (n : Nat) : wantL f os n = byT (os.map fun i => (key1 i, f i)) n := by
  unfold wantL byT
  congr 1
  funext a
  rw [List.filter_map, List.map_map]
  rfl
theorem wantL_succ (f : Nat → Int) (os : List Nat) (n : Nat) : wantL f os (n + 1) = wantL f os n ++ (os.filter fun i => decide (f i = (n : Int))).map key1 := by
  unfold wantL
  rw [List.range_succ, List.flatMap_append]
  simp
/-- the order behind one that was set anew -/
def ordL (m s : Nat) : List Nat := (List.range m).take s ++ (List.range m).drop (s + 1) ++ [s]
theorem ordL_length {m s : Nat} (h : s < m) : (ordL m s).length = m := by simp [ordL]; omega
theorem ordL_lt {m s i : Nat} (h : s < m) (hi : i ∈ ordL m s) : i < m := by
  simp only [ordL, List.mem_append, List.mem_singleton] at hi
  rcases hi with (hi | hi) | rfl
  · exact List.mem_range.1 (List.mem_of_mem_take hi)
  · exact List.mem_range.1 (List.mem_of_mem_drop hi)
  · exact h
theorem set_again (zs : List Int) {m s : Nat} (h : s < m) (hm : m ≤ 100) : setL (bytL zs 0 m) (key1 s) (zs.getD s 0) = (ordL m s).map fun i => (key1 i, zs.getD i 0) := by
  have hb : bad (key1 s) = false := key1_bad s
  have hk : hasL (bytL zs 0 m) (key1 s) = true := bytL_has.2 ⟨s, h, rfl⟩
  have he : bytL zs 0 m = ((List.range m).take s).map (fun i => (key1 i, zs.getD i 0)) ++ (key1 s, zs.getD s 0) :: ((List.range m).drop (s + 1)).map fun i => (key1 i, zs.getD i 0) := by
    have hr : List.range m = (List.range m).take s ++ s :: (List.range m).drop (s + 1) := by
      have := List.take_append_drop s (List.range m)
      rw [List.drop_eq_getElem_cons (by simpa using h)] at this
      simpa using this.symm
    unfold bytL
    simp only [Int.add_zero]
    conv => lhs; rw [hr]
    rw [List.map_append, List.map_cons]
  have hd : delL (bytL zs 0 m) (key1 s) = ((List.range m).take s).map (fun i => (key1 i, zs.getD i 0)) ++ ((List.range m).drop (s + 1)).map fun i => (key1 i, zs.getD i 0) := by
    have hu := bytL_uniq zs 0 m hm
    rw [he] at hu ⊢
    exact del_mid (m := (key1 s, zs.getD s 0)) hu
  have hs : setL (bytL zs 0 m) (key1 s) (zs.getD s 0) = delL (bytL zs 0 m) (key1 s) ++ [(key1 s, zs.getD s 0)] := by
    have h0 : setE (bytL zs 0 m) (key1 s) = 0 := by unfold setE; simp [hb, hk]
    unfold setL
    simp [h0]
  rw [hs, hd]
  simp [ordL]
theorem setE_again (zs : List Int) {m s : Nat} (h : s < m) : setE (bytL zs 0 m) (key1 s) = 0 := by
  have hb : bad (key1 s) = false := key1_bad s
  have hk : hasL (bytL zs 0 m) (key1 s) = true := bytL_has.2 ⟨s, h, rfl⟩
  unfold setE
  simp [hb, hk]
theorem ordL_uniq (zs : List Int) {m s : Nat} (h : s < m) (hm : m ≤ 100) : Uniq ((ordL m s).map fun i => (key1 i, zs.getD i 0)) := by
  unfold Uniq
  rw [List.map_map]
  have hr : List.range m = (List.range m).take s ++ s :: (List.range m).drop (s + 1) := by
    have := List.take_append_drop s (List.range m)
    rw [List.drop_eq_getElem_cons (by simpa using h)] at this
    simpa using this.symm
  have hn : (ordL m s).Nodup := by
    have hp : (ordL m s).Perm (List.range m) := by
      conv => rhs; rw [hr]
      unfold ordL
      rw [List.append_assoc]
      exact List.Perm.append_left _ (List.perm_append_singleton _ _)
    exact hp.nodup_iff.2 List.nodup_range
  refine List.Pairwise.map _ (R := fun a b => a ≠ b ∧ a ∈ ordL m s ∧ b ∈ ordL m s) ?_ (hn.imp_of_mem fun ha hb hab => ⟨hab, ha, hb⟩)
  intro a b ⟨hab, ha, hb⟩ e
  refine hab ?_
  exact key1_inj (Nat.lt_of_lt_of_le (ordL_lt h ha) hm) (Nat.lt_of_lt_of_le (ordL_lt h hb) hm) e
/-- All fall due up to 7, in that order. -/
theorem due_seven (zs : List Int) {m s : Nat} (h : s < m) (hm : m ≤ 100) (hz : ∀ i, 0 ≤ zs.getD i 0 ∧ zs.getD i 0 ≤ 7) :
    (dueL 7 ((ordL m s).map fun i => (key1 i, zs.getD i 0))).1 = wantL (fun i => zs.getD i 0) (ordL m s) 8 ∧ (dueL 7 ((ordL m s).map fun i => (key1 i, zs.getD i 0))).2 = [] := by
  have hu := ordL_uniq zs h hm
  constructor
  · have hp : ∀ x ∈ (ordL m s).map (fun i => (key1 i, zs.getD i 0)), 0 ≤ x.2 := by
      intro x hx
      obtain ⟨i, _, rfl⟩ := List.mem_map.1 hx
      exact (hz i).1
    rw [wantL_eq]
    exact due_byT 7 hu hp
  · have hr := (due_rest 7 hu).2.1
    refine List.eq_nil_iff_forall_not_mem.2 fun x hx => ?_
    obtain ⟨h1, h2⟩ := hr x hx
    obtain ⟨i, _, rfl⟩ := List.mem_map.1 h1
    have := (hz i).2
    simp only at h2
    omega
end Go.Proofs.Ytfecgibdhglhiaa
