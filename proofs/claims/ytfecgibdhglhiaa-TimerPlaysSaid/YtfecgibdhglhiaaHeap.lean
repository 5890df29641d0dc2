/-
  A binary heap over lists: what container/heap's up, down and Fix do to a list of timers, that they permute it and make it a heap again.
  Conditions: the places lie in the list. Plain lists, no program.
-/
namespace Go.Proofs.Ytfecgibdhglhiaa
structure T where
  blk : Nat
  id : ByteArray
  at_ : Int
  num : Int
instance : Inhabited T := ⟨⟨0, ByteArray.empty, 0, 0⟩⟩

/-- falls due first -/
def less (a b : T) : Bool := decide (a.at_ < b.at_ ∨ (a.at_ = b.at_ ∧ a.num < b.num))
theorem less_iff (a b : T) : less a b = true ↔ (a.at_ < b.at_ ∨ (a.at_ = b.at_ ∧ a.num < b.num)) := by simp [less]
theorem nless_iff (a b : T) : less a b = false ↔ ¬ (a.at_ < b.at_ ∨ (a.at_ = b.at_ ∧ a.num < b.num)) := by simp [less]

def g (ts : List T) (i : Nat) : T := ts.getD i default
def swp (ts : List T) (i j : Nat) : List T := (ts.set i (g ts j)).set j (g ts i)

theorem swp_length (ts : List T) (i j : Nat) : (swp ts i j).length = ts.length := by simp [swp]
theorem g_lt {ts : List T} {i : Nat} (h : i < ts.length) : g ts i = ts[i] := by simp [g, h]
theorem swp_perm {ts : List T} {i j : Nat} (hi : i < ts.length) (hj : j < ts.length) : (swp ts i j).Perm ts := by
  unfold swp; rw [g_lt hi, g_lt hj]; exact List.set_set_perm hi hj
theorem g_swp {ts : List T} {i j : Nat} (hi : i < ts.length) (hj : j < ts.length) (k : Nat) :
    g (swp ts i j) k = if k = j then g ts i else if k = i then g ts j else g ts k := by
  simp only [g, swp, List.getD_eq_getElem?_getD, List.getElem?_set, List.length_set]
  by_cases h1 : k = j
  · subst h1; simp [hj]
  · by_cases h2 : k = i
    · subst h2; simp [h1, hi, Ne.symm h1]
    · simp [h1, h2, Ne.symm h1, Ne.symm h2]

def upL (ts : List T) (j : Nat) : List T :=
  if 0 < j ∧ less (g ts j) (g ts ((j-1)/2)) = true then upL (swp ts ((j-1)/2) j) ((j-1)/2) else ts
  termination_by j
  decreasing_by omega

def child (ts : List T) (i n : Nat) : Nat := if 2*i+2 < n ∧ less (g ts (2*i+2)) (g ts (2*i+1)) = true then 2*i+2 else 2*i+1

theorem child_lt (ts : List T) {i n : Nat} (h : 2*i+1 < n) : i < child ts i n ∧ child ts i n < n := by
  unfold child; split <;> omega

def downL (ts : List T) (i n : Nat) : List T × Nat :=
  if _h : 2*i+1 < n then
    if less (g ts (child ts i n)) (g ts i) = true then downL (swp ts i (child ts i n)) (child ts i n) n else (ts, i)
  else (ts, i)
  termination_by n - i
  decreasing_by have := child_lt ts _h; omega

theorem upL_length (ts : List T) (j : Nat) : (upL ts j).length = ts.length := by
  induction j using Nat.strongRecOn generalizing ts with
  | _ j ih =>
    unfold upL; split
    · rw [ih _ (by omega), swp_length]
    · rfl
theorem upL_perm {ts : List T} {j : Nat} (hj : j < ts.length) : (upL ts j).Perm ts := by
  induction j using Nat.strongRecOn generalizing ts with
  | _ j ih =>
    unfold upL; split
    · exact (ih _ (by omega) (by rw [swp_length]; omega)).trans (swp_perm (by omega) hj)
    · exact List.Perm.refl _

/-- the heap's edges -/
def HeapAll (ts : List T) (n : Nat) : Prop := ∀ c, 0 < c → c < n → less (g ts c) (g ts ((c-1)/2)) = false
def UpInv (ts : List T) (j n : Nat) : Prop :=
  (∀ c, 0 < c → c < n → c ≠ j → less (g ts c) (g ts ((c-1)/2)) = false) ∧
  (∀ c, 0 < c → c < n → (c-1)/2 = j → 0 < j → less (g ts c) (g ts ((j-1)/2)) = false)

theorem less_trans {a b c : T} (h1 : less a b = true) (h2 : less b c = true) : less a c = true := by
  rw [less_iff] at *; omega
theorem nless_trans {a b c : T} (h1 : less a b = false) (h2 : less b c = false) : less a c = false := by
  rw [nless_iff] at *; omega
theorem less_asym {a b : T} (h1 : less a b = true) : less b a = false := by
  rw [less_iff] at h1; rw [nless_iff]; omega
theorem nless_of {a b c : T} (h1 : less a c = false) (h2 : less b c = true) : less a b = false := by
  rw [less_iff] at h2; rw [nless_iff] at *; omega
theorem nless_of' {a b c : T} (h1 : less c a = false) (h2 : less c b = true) : less b a = false := by
  rw [less_iff] at h2; rw [nless_iff] at *; omega
theorem nless_refl (a : T) : less a a = false := by rw [nless_iff]; omega

theorem upL_heap {ts : List T} {j n : Nat} (hj : j < n) (hn : n ≤ ts.length) (h : UpInv ts j n) : HeapAll (upL ts j) n := by
  induction j using Nat.strongRecOn generalizing ts with
  | _ j ih =>
    unfold upL; split
    · rename_i hc
      obtain ⟨h0, hl⟩ := hc
      have hi : (j-1)/2 < ts.length := by omega
      have hj' : j < ts.length := by omega
      refine ih _ (by omega) (by omega) (by rw [swp_length]; exact hn) ⟨?_, ?_⟩
      · intro c c0 cn cne
        rw [g_swp hi hj', g_swp hi hj']
        by_cases e : c = j
        · subst e; rw [if_pos rfl, if_neg (by omega), if_pos rfl]; exact less_asym hl
        · rw [if_neg e]
          by_cases e2 : c = (j-1)/2
          · exact absurd e2 cne
          · rw [if_neg e2]
            by_cases e3 : (c-1)/2 = j
            · rw [if_pos e3]; exact h.2 c c0 cn e3 h0
            · rw [if_neg e3]
              by_cases e4 : (c-1)/2 = (j-1)/2
              · rw [if_pos e4]
                have := h.1 c c0 cn e; rw [e4] at this
                exact nless_of this hl
              · rw [if_neg e4]; exact h.1 c c0 cn e
      · intro c c0 cn cp hp
        have q : less (g ts ((j-1)/2)) (g ts (((j-1)/2-1)/2)) = false := h.1 _ hp (by omega) (by omega)
        rw [g_swp hi hj', g_swp hi hj']
        rw [if_neg (show ¬ ((j-1)/2-1)/2 = j by omega), if_neg (show ¬ ((j-1)/2-1)/2 = (j-1)/2 by omega)]
        by_cases e : c = j
        · rw [if_pos e]; exact q
        · rw [if_neg e, if_neg (by omega)]
          have := h.1 c c0 cn e; rw [cp] at this
          exact nless_trans this q
    · rename_i hc
      intro c c0 cn
      by_cases e : c = j
      · subst e
        have : ¬ less (g ts c) (g ts ((c-1)/2)) = true := fun hh => hc ⟨c0, hh⟩
        simpa using this
      · exact h.1 c c0 cn e

def DownInv (ts : List T) (i n : Nat) : Prop :=
  (∀ c, 0 < c → c < n → (c-1)/2 ≠ i → less (g ts c) (g ts ((c-1)/2)) = false) ∧
  (∀ c, 0 < c → c < n → (c-1)/2 = i → 0 < i → less (g ts c) (g ts ((i-1)/2)) = false)
/-- .. its own edge upwards left open, too -/
def ButInv (ts : List T) (i n : Nat) : Prop :=
  (∀ c, 0 < c → c < n → c ≠ i → (c-1)/2 ≠ i → less (g ts c) (g ts ((c-1)/2)) = false) ∧
  (∀ c, 0 < c → c < n → (c-1)/2 = i → 0 < i → less (g ts c) (g ts ((i-1)/2)) = false)

theorem downL_length (ts : List T) (i n : Nat) : (downL ts i n).1.length = ts.length := by
  generalize hd : n - i = d
  induction d using Nat.strongRecOn generalizing ts i with
  | _ d ih =>
    unfold downL; split
    · rename_i h
      split
      · have := child_lt ts h
        rw [ih (n - child ts i n) (by omega) _ _ rfl, swp_length]
      · rfl
    · rfl
theorem downL_perm {ts : List T} {i n : Nat} (hn : n ≤ ts.length) : (downL ts i n).1.Perm ts := by
  generalize hd : n - i = d
  induction d using Nat.strongRecOn generalizing ts i with
  | _ d ih =>
    unfold downL; split
    · rename_i h
      split
      · have := child_lt ts h
        exact (ih (n - child ts i n) (by omega) (by rw [swp_length]; exact hn) rfl).trans (swp_perm (by omega) (by omega))
      · exact List.Perm.refl _
    · exact List.Perm.refl _
theorem downL_ge (ts : List T) (i n : Nat) : i ≤ (downL ts i n).2 := by
  generalize hd : n - i = d
  induction d using Nat.strongRecOn generalizing ts i with
  | _ d ih =>
    unfold downL; split
    · rename_i h
      split
      · have := child_lt ts h
        have := ih (n - child ts i n) (by omega) (swp ts i (child ts i n)) _ rfl; omega
      · exact Nat.le_refl _
    · exact Nat.le_refl _
/-- what stands from n on stays -/
theorem downL_past (ts : List T) (i n k : Nat) (hi : i < n) (hn : n ≤ ts.length) (hk : n ≤ k) : g (downL ts i n).1 k = g ts k := by
  generalize hd : n - i = d
  induction d using Nat.strongRecOn generalizing ts i with
  | _ d ih =>
    unfold downL; split
    · rename_i h
      split
      · have := child_lt ts h
        rw [ih (n - child ts i n) (by omega) (swp ts i (child ts i n)) _ (by omega) (by rw [swp_length]; exact hn) rfl, g_swp (by omega) (by omega), if_neg (by omega), if_neg (by omega)]
      · rfl
    · rfl
theorem child_min {ts : List T} {i n : Nat} (c : Nat) (c0 : 0 < c) (cn : c < n) (cp : (c-1)/2 = i) : less (g ts c) (g ts (child ts i n)) = false := by
  have : c = 2*i+1 ∨ c = 2*i+2 := by omega
  unfold child
  rcases this with rfl | rfl
  · split
    · rename_i hh; exact less_asym hh.2
    · exact nless_refl _
  · split
    · exact nless_refl _
    · rename_i hh
      have : ¬ less (g ts (2*i+2)) (g ts (2*i+1)) = true := fun q => hh ⟨cn, q⟩
      simpa using this
theorem child_par {ts : List T} {i n : Nat} : (child ts i n - 1)/2 = i := by unfold child; split <;> omega
theorem downL_heap {ts : List T} {i n : Nat} (hi : i < n) (hn : n ≤ ts.length) (h : DownInv ts i n) : HeapAll (downL ts i n).1 n := by
  generalize hd : n - i = d
  induction d using Nat.strongRecOn generalizing ts i with
  | _ d ih =>
    unfold downL; split
    · rename_i hlt
      have hch := child_lt ts hlt
      have hcm := fun c c0 cn cp => child_min (ts := ts) (i := i) (n := n) c c0 cn cp
      have hcp := child_par (ts := ts) (i := i) (n := n)
      generalize child ts i n = j at *
      have hi' : i < ts.length := by omega
      have hj' : j < ts.length := by omega
      split
      · rename_i hl
        refine ih (n - j) (by omega) (by omega) (by rw [swp_length]; exact hn) ⟨?_, ?_⟩ rfl
        · intro c c0 cn cne
          rw [g_swp hi' hj', g_swp hi' hj']
          by_cases e : c = j
          · subst e; rw [if_pos rfl, if_neg (by omega), if_pos (by omega)]; exact less_asym hl
          · rw [if_neg e]
            by_cases e2 : c = i
            · subst e2
              rw [if_pos rfl, if_neg (by omega), if_neg (by omega)]
              exact h.2 j (by omega) (by omega) hcp c0
            · rw [if_neg e2, if_neg (by omega)]
              by_cases e3 : (c-1)/2 = i
              · rw [if_pos e3]; exact hcm c c0 cn e3
              · rw [if_neg e3]; exact h.1 c c0 cn e3
        · intro c c0 cn cp j0
          rw [g_swp hi' hj', g_swp hi' hj']
          rw [if_neg (by omega), if_neg (by omega), if_neg (by omega), if_pos (by omega)]
          have := h.1 c c0 cn (by omega); rw [cp] at this; exact this
      · rename_i hl
        intro c c0 cn
        by_cases e : (c-1)/2 = i
        · rw [e]; have := hcm c c0 cn e
          exact nless_trans this (by simpa using hl)
        · exact h.1 c c0 cn e
    · rename_i hlt
      intro c c0 cn
      exact h.1 c c0 cn (by omega)

/-- heap.Fix -/
def fixL (ts : List T) (i n : Nat) : List T := if i < (downL ts i n).2 then (downL ts i n).1 else upL (downL ts i n).1 i
theorem downL_stays {ts : List T} {i n : Nat} (h : ¬ i < (downL ts i n).2) : (downL ts i n).1 = ts ∧ ∀ c, 0 < c → c < n → (c-1)/2 = i → less (g ts c) (g ts i) = false := by
  revert h
  unfold downL; split
  · rename_i hlt
    split
    · intro h
      have h1 := child_lt ts hlt
      have h2 := downL_ge (swp ts i (child ts i n)) (child ts i n) n
      omega
    · rename_i hl
      intro _
      exact ⟨rfl, fun c c0 cn cp => nless_trans (child_min c c0 cn cp) (by simpa using hl)⟩
  · rename_i hlt
    intro _
    exact ⟨rfl, fun c c0 cn cp => by omega⟩
theorem downL_moved {ts : List T} {i n : Nat} (hi : i < n) (hn : n ≤ ts.length) (h : i < (downL ts i n).2) (hb : ButInv ts i n) : HeapAll (downL ts i n).1 n := by
  revert h
  unfold downL; split
  · rename_i hlt
    have hch := child_lt ts hlt
    have hcm := fun c c0 cn cp => child_min (ts := ts) (i := i) (n := n) c c0 cn cp
    have hcp := child_par (ts := ts) (i := i) (n := n)
    generalize child ts i n = j at *
    have hi' : i < ts.length := by omega
    have hj' : j < ts.length := by omega
    split
    · rename_i hl
      intro _
      refine downL_heap (by omega) (by rw [swp_length]; exact hn) ⟨?_, ?_⟩
      · intro c c0 cn cne
        rw [g_swp hi' hj', g_swp hi' hj']
        by_cases e : c = j
        · subst e; rw [if_pos rfl, if_neg (by omega), if_pos (by omega)]; exact less_asym hl
        · rw [if_neg e]
          by_cases e2 : c = i
          · subst e2
            rw [if_pos rfl, if_neg (by omega), if_neg (by omega)]
            exact hb.2 j (by omega) (by omega) hcp c0
          · rw [if_neg e2, if_neg (by omega)]
            by_cases e3 : (c-1)/2 = i
            · rw [if_pos e3]; exact hcm c c0 cn e3
            · rw [if_neg e3]; exact hb.1 c c0 cn e2 e3
      · intro c c0 cn cp j0
        rw [g_swp hi' hj', g_swp hi' hj']
        rw [if_neg (by omega), if_neg (by omega), if_neg (by omega), if_pos (by omega)]
        have := hb.1 c c0 cn (by omega) (by omega); rw [cp] at this; exact this
    · intro h; simp at h
  · intro h; simp at h
theorem fixL_heap {ts : List T} {i n : Nat} (hi : i < n) (hn : n ≤ ts.length) (hb : ButInv ts i n) : HeapAll (fixL ts i n) n := by
  unfold fixL; split
  · rename_i h; exact downL_moved hi hn h hb
  · rename_i h
    obtain ⟨e, hc⟩ := downL_stays h
    rw [e]
    refine upL_heap hi hn ⟨fun c c0 cn cne => ?_, hb.2⟩
    by_cases e3 : (c-1)/2 = i
    · rw [e3]; exact hc c c0 cn e3
    · exact hb.1 c c0 cn cne e3
theorem fixL_perm {ts : List T} {i n : Nat} (hi : i < n) (hn : n ≤ ts.length) : (fixL ts i n).Perm ts := by
  unfold fixL; split
  · exact downL_perm hn
  · exact (upL_perm (by rw [downL_length]; omega)).trans (downL_perm hn)
theorem fixL_length (ts : List T) (i n : Nat) : (fixL ts i n).length = ts.length := by
  unfold fixL; split
  · exact downL_length _ _ _
  · rw [upL_length, downL_length]
theorem upL_past (ts : List T) (j k : Nat) (hn : j < ts.length) (hk : j < k) : g (upL ts j) k = g ts k := by
  induction j using Nat.strongRecOn generalizing ts with
  | _ j ih =>
    unfold upL; split
    · rename_i h; rw [ih _ (by omega) _ (by rw [swp_length]; omega) (by omega), g_swp (by omega) (by omega), if_neg (by omega), if_neg (by omega)]
    · rfl
theorem fixL_past {ts : List T} {i n k : Nat} (hi : i < n) (hn : n ≤ ts.length) (hk : n ≤ k) : g (fixL ts i n) k = g ts k := by
  unfold fixL; split
  · exact downL_past _ _ _ _ hi hn hk
  · rw [upL_past _ _ _ (by rw [downL_length]; omega) (by omega), downL_past _ _ _ _ hi hn hk]
/-- a heap's first is the least -/
theorem heap_first {ts : List T} {n : Nat} (h : HeapAll ts n) (i : Nat) (hi : i < n) : less (g ts i) (g ts 0) = false := by
  induction i using Nat.strongRecOn with
  | _ i ih =>
    by_cases e : i = 0
    · subst e; exact nless_refl _
    · exact nless_trans (h i (by omega) hi) (ih _ (by omega) (by omega))
/-- an element turned: what Fix asks -/
theorem but_set {ts : List T} {i : Nat} (hi : i < ts.length) (x : T) (h : HeapAll ts ts.length) : ButInv (ts.set i x) i (ts.set i x).length := by
  have e : ∀ k, k ≠ i → g (ts.set i x) k = g ts k := by
    intro k hk; simp [g, Ne.symm hk]
  rw [List.length_set]
  refine ⟨fun c c0 cn cne cpe => by rw [e c cne, e _ cpe]; exact h c c0 cn, fun c c0 cn cp i0 => ?_⟩
  rw [e c (by omega), e _ (by omega)]
  have h1 := h c c0 cn
  have h2 := h i i0 hi
  rw [cp] at h1
  exact nless_trans h1 h2
end Go.Proofs.Ytfecgibdhglhiaa
