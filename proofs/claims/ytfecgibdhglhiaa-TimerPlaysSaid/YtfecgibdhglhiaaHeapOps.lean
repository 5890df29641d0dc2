/-
  The walks of heap.Push, heap.Pop, heap.Fix and heap.Remove over a heap of timers in memory.
  Conditions: the line lies in memory as HeapAt says; the place is in it, Pop: it is not empty; there are at most 2000.
-/
import Derived.Test.YtfecgibdhglhiaaUpDown
namespace Go.Proofs.Ytfecgibdhglhiaa
open Go.RowKit
section
variable {w : World} {p : Nat} {m l v : Value} {ts : List T}
theorem HeapAt.val (h : HeapAt w p m l v ts) : ∃ a c, v = .slice a ts.length c := by
  rcases h.shape with ⟨h1, h2⟩ | ⟨a, c, cur, h1, _⟩
  · exact ⟨none, 0, by rw [h1, h2]; rfl⟩
  · exact ⟨_, _, h1⟩
theorem lenAt (h : HeapAt w p m l v ts) : Calls Try.prog 46 #[v] w fun e w' => e = .returned (.int .i64 ts.length) ∧ w = w' := by
  obtain ⟨a, c, rfl⟩ := h.val
  exact lineLen_any _ _ _ _
theorem Foot.push {p : Nat} {v v' : Value} {ts : List T} {x : T} {N b : Nat} (hv : ∀ k, v'.ownBlock = some k → v.ownBlock = some k ∨ N ≤ k) (hb : b < N) (h : Foot p v' (ts ++ [x]) b) : Foot p v ts b ∨ b = x.blk := by
  rcases h with rfl | h1 | ⟨t, ht, rfl⟩
  · exact .inl (.inl rfl)
  · rcases hv b h1 with h2 | h2
    · exact .inl (.inr (.inl h2))
    · omega
  · rcases List.mem_append.1 ht with h2 | h2
    · exact .inl (.inr (.inr ⟨t, h2, rfl⟩))
    · simp at h2; subst h2; exact .inr rfl

set_option maxHeartbeats 1000000 in
/-- heap.Push -/
theorem heapPushAt (h : HeapAt w p m l v ts) (x : T) (pl : Nat) (hx : w.heap[x.blk]? = some (tb x pl)) (hf : ¬ Foot p v ts x.blk) (hb : ts.length < 2000) :
    Calls Try.prog 24 #[.iface 72 (.pointer (some ⟨p, 0, none⟩)), .iface 57 (.pointer (some ⟨x.blk, 0, none⟩))] w fun e w' => e = .returned (.tuple #[]) ∧
      (∃ v', (∀ k, v'.ownBlock = some k → v.ownBlock = some k ∨ w.heap.size ≤ k) ∧ HeapAt w' p m l v' (upL (ts ++ [x]) ts.length)) ∧ Keeps (fun b => Foot p v ts b ∨ b = x.blk) w w' := by
  have hc := pushAt h x pl hx hf (by omega)
  have HC := Lib.hid hc
  have hm := m_push p w
  obtain ⟨n, hn⟩ : ∃ n, ts.length = n := ⟨_, rfl⟩
  rw [hn]
  have HN := Lib.hid hn
  rw [hn] at hb
  clear hc h hx hf hn
  go_enter Try.func24, Try.ntmps24
  go_wp2_with fail
  refine (HC.out).mono ?_; rintro e w1 ⟨rfl, ⟨v', hv', h1⟩, hk1⟩
  clear hm HC
  have H1 := Lib.hid h1
  have HV := Lib.hid hv'
  have hm1 := m_len h1.cell
  have hl : (ts ++ [x]).length = n + 1 := by simp [HN.out]
  have hc1 := lenAt h1
  rw [hl] at hc1
  have HL := Lib.hid hl
  have HC1 := Lib.hid hc1
  clear h1 hv' hc1 hl
  go_wp2_with fail
  refine (HC1.out).mono ?_; rintro e w2 ⟨rfl, rfl⟩
  clear hm1
  have ha := upAt H1.out (j := n) (by rw [HL.out]; omega) (by rw [HL.out]; omega)
  have HA := Lib.hid ha
  clear ha
  go_wp2_with fail
  refine (HA.out).mono ?_; rintro e w3 ⟨rfl, h3, hk3⟩
  have H3 := Lib.hid h3
  have hk : Keeps (fun b => Foot p v ts b ∨ b = x.blk) w w3 := hk1.trans' hk3 fun i hi hf => hf.push HV.out hi
  clear h3 hk1 hk3
  go_wp2
  go_end0
  exact ⟨rfl, ⟨v', HV.out, H3.out⟩, hk⟩

theorem Foot.same {p : Nat} {v v' : Value} {ts us : List T} {b : Nat} (hv : v'.ownBlock = v.ownBlock) (hs : ∀ t ∈ us, t ∈ ts) (h : Foot p v' us b) : Foot p v ts b := by
  rcases h with rfl | h1 | ⟨t, ht, rfl⟩
  · exact .inl rfl
  · exact .inr (.inl (hv ▸ h1))
  · exact .inr (.inr ⟨t, hs t ht, rfl⟩)
def popL (ts : List T) : List T := ((downL (swp ts 0 (ts.length - 1)) 0 (ts.length - 1)).1).take (ts.length - 1)
set_option maxHeartbeats 1000000 in
/-- heap.Pop -/
theorem heapPopAt (h : HeapAt w p m l v ts) (h0 : 0 < ts.length) (hb : ts.length ≤ 2000) :
    Calls Try.prog 25 #[.iface 72 (.pointer (some ⟨p, 0, none⟩))] w fun e w' => e = .returned (.iface 57 (ptrT (g ts 0))) ∧
      (∃ v', v'.ownBlock = v.ownBlock ∧ HeapAt w' p m l v' (popL ts)) ∧ Keeps (Foot p v ts) w w' ∧ w'.heap[(g ts 0).blk]? = some (tb (g ts 0) (ts.length - 1)) := by
  obtain ⟨n, hn⟩ : ∃ n, ts.length = n + 1 := ⟨ts.length - 1, by omega⟩
  have hm := m_len h.cell
  have hc := lenAt h
  rw [hn] at hc
  have HC := Lib.hid hc
  have HH := Lib.hid h
  have HN := Lib.hid hn
  have hb' : n + 1 ≤ 2000 := by omega
  clear hc h hn h0 hb
  go_enter Try.func25, Try.ntmps25
  go_wp2_with fail
  refine (HC.out).mono ?_; rintro e w1 ⟨rfl, rfl⟩
  clear hm HC
  have hm := m_swap HH.out.cell
  have hc := swapAt HH.out (i := 0) (k := n) (by rw [HN.out]; omega) (by rw [HN.out]; omega)
  have HC := Lib.hid hc
  clear hc
  go_wp2_with fail
  refine (HC.out).mono ?_; rintro e w1 ⟨rfl, h1, hk1⟩
  clear hm HC
  have hp1 := swp_perm (ts := ts) (i := 0) (j := n) (by rw [HN.out]; omega) (by rw [HN.out]; omega)
  have hc := downAt h1 (i := 0) (n := n) (by omega) (by rw [swp_length, HN.out]; omega) (by rw [swp_length, HN.out]; omega)
  have HC := Lib.hid hc
  clear hc h1
  go_wp2_with fail
  refine (HC.out).mono ?_; rintro e w2 ⟨rfl, h2, hk2⟩
  clear HC
  have hp2 := (downL_perm (ts := swp ts 0 n) (i := 0) (n := n) (by rw [swp_length, HN.out]; omega)).trans hp1
  have hl2 : (downL (swp ts 0 n) 0 n).1.length = n + 1 := by rw [hp2.length_eq, HN.out]
  have hm := m_pop p w2
  have hc := popAt2 h2 (by rw [hl2]; omega)
  rw [hl2] at hc
  have hg : g (downL (swp ts 0 n) 0 n).1 (n + 1 - 1) = g ts 0 := by
    by_cases e : n = 0
    · subst e
      have : downL (swp ts 0 0) 0 0 = (swp ts 0 0, 0) := by unfold downL; rw [dif_neg (by omega)]
      rw [this, Nat.zero_add, Nat.sub_self, g_swp (by rw [HN.out]; omega) (by rw [HN.out]; omega), if_pos rfl]
    · rw [Nat.add_sub_cancel, downL_past _ _ _ _ (by omega) (by rw [swp_length, HN.out]; omega) (Nat.le_refl _), g_swp (by rw [HN.out]; omega) (by rw [HN.out]; omega), if_pos rfl]
  rw [hg, Nat.add_sub_cancel] at hc
  have HC := Lib.hid hc
  have hq : Keeps (Foot p v ts) w w2 := hk1.trans' hk2 fun i _ hf => hf.perm hp1
  have HP2 := Lib.hid hp2
  clear hc h2 hl2 hg hk1 hk2 hp1 hp2
  go_wp2_with fail
  refine (HC.out).mono ?_; rintro e w3 ⟨rfl, ⟨v', hv', h3⟩, hk3, hb3⟩
  have hpop : popL ts = List.take n (downL (swp ts 0 n) 0 n).1 := by unfold popL; rw [HN.out]; rfl
  rw [← hpop] at h3
  have hb4 : w3.heap[(g ts 0).blk]? = some (tb (g ts 0) (ts.length - 1)) := by rw [HN.out]; exact hb3
  have HB := Lib.hid hb4
  have H3 := Lib.hid h3
  have HV := Lib.hid hv'
  have hq3 : Keeps (Foot p v ts) w w3 := hq.trans' hk3 fun i _ hf => hf.perm HP2.out
  clear h3 hv' hpop hm hb3 hb4
  go_wp2
  go_ret
  exact ⟨rfl, ⟨v', HV.out, H3.out⟩, hq3, HB.out⟩

set_option maxHeartbeats 1000000 in
/-- heap.Fix -/
theorem heapFixAt (h : HeapAt w p m l v ts) {i : Nat} (hi : i < ts.length) (hb : ts.length ≤ 2000) :
    Calls Try.prog 22 #[.iface 72 (.pointer (some ⟨p, 0, none⟩)), .int .i64 i] w fun e w' => e = .returned (.tuple #[]) ∧ HeapAt w' p m l v (fixL ts i ts.length) ∧ Keeps (Foot p v ts) w w' := by
  obtain ⟨n, hn⟩ : ∃ n, ts.length = n := ⟨_, rfl⟩
  have hm := m_len h.cell
  have hc := lenAt h
  rw [hn] at hc hi hb
  have HC := Lib.hid hc
  have hd := downAt h (i := i) (n := n) (by omega) (by omega) (by omega)
  have HD := Lib.hid hd
  have HN := Lib.hid hn
  rw [hn]
  by_cases hj : i < (downL ts i n).2
  · have e : fixL ts i n = (downL ts i n).1 := by unfold fixL; rw [if_pos hj]
    rw [e]
    have hj' : decide (i < (downL ts i n).2) = true := by simpa using hj
    rw [hj'] at hd
    have HD := Lib.hid hd
    clear hc h hn hd hj hj' e
    go_enter Try.func22, Try.ntmps22
    go_wp2_with fail
    refine (HC.out).mono ?_; rintro e w1 ⟨rfl, rfl⟩
    clear hm HC
    go_wp2_with fail
    refine (HD.out).mono ?_; rintro e w1 ⟨rfl, h1, hk1⟩
    have H1 := Lib.hid h1
    clear h1
    go_wp2
    go_end0
    exact ⟨rfl, H1.out, hk1⟩
  · have e : fixL ts i n = upL (downL ts i n).1 i := by unfold fixL; rw [if_neg hj]
    rw [e]
    have hj' : decide (i < (downL ts i n).2) = false := by simpa using hj
    rw [hj'] at hd
    have HD := Lib.hid hd
    clear hc h hn hd hj hj' e
    go_enter Try.func22, Try.ntmps22
    go_wp2_with fail
    refine (HC.out).mono ?_; rintro e w1 ⟨rfl, rfl⟩
    clear hm HC
    go_wp2_with fail
    refine (HD.out).mono ?_; rintro e w1 ⟨rfl, h1, hk1⟩
    have hu := upAt h1 (j := i) (by rw [downL_length, HN.out]; omega) (by rw [downL_length, HN.out]; omega)
    have HU := Lib.hid hu
    clear h1 hu
    go_wp2_with fail
    refine (HU.out).mono ?_; rintro e w2 ⟨rfl, h2, hk2⟩
    have hq : Keeps (Foot p v ts) _ w2 := hk1.trans' hk2 fun _ _ hf => hf.perm (downL_perm (by rw [HN.out]; exact Nat.le_refl _))
    have H2 := Lib.hid h2
    clear h2 hk1 hk2
    go_wp2
    go_end0
    exact ⟨rfl, H2.out, hq⟩

def removeL (ts : List T) (i : Nat) : List T := (if i = ts.length - 1 then ts else fixL (swp ts i (ts.length - 1)) i (ts.length - 1)).take (ts.length - 1)
set_option maxHeartbeats 1000000 in
/-- heap.Remove -/
theorem heapRemoveAt (h : HeapAt w p m l v ts) {i : Nat} (hi : i < ts.length) (hb : ts.length ≤ 2000) :
    Calls Try.prog 26 #[.iface 72 (.pointer (some ⟨p, 0, none⟩)), .int .i64 i] w fun e w' => e = .returned (.iface 57 (ptrT (g ts i))) ∧
      (∃ v', v'.ownBlock = v.ownBlock ∧ HeapAt w' p m l v' (removeL ts i)) ∧ Keeps (Foot p v ts) w w' := by
  obtain ⟨n, hn⟩ : ∃ n, ts.length = n + 1 := ⟨ts.length - 1, by omega⟩
  have hm := m_len h.cell
  have hc := lenAt h
  rw [hn] at hc hi
  have HC := Lib.hid hc
  have hb' : n + 1 ≤ 2000 := by omega
  by_cases hin : i = n
  · have hc2 := popAt h (by omega)
    subst hin
    have hr : removeL ts i = ts.take i := by unfold removeL; rw [hn]; simp
    rw [hn, Nat.add_sub_cancel, ← hr] at hc2
    have HC2 := Lib.hid hc2
    have hm2 := m_pop p w
    clear hc h hn hc2 hr
    go_enter Try.func26, Try.ntmps26
    go_wp2_with fail
    refine (HC.out).mono ?_; rintro e w1 ⟨rfl, rfl⟩
    clear hm HC
    go_wp2_with fail
    refine (HC2.out).mono ?_; rintro e w1 ⟨rfl, ⟨v', hv', h1⟩, hk1⟩
    have H1 := Lib.hid h1
    have HV := Lib.hid hv'
    clear h1 hv' hm2
    go_wp2
    go_ret
    exact ⟨rfl, ⟨v', HV.out, H1.out⟩, hk1⟩
  · have hm2 := m_swap h.cell
    have hne : ((n : Int) != i) = true := by simp; omega
    have hs := swapAt h (i := i) (k := n) (by omega) (by omega)
    have HS := Lib.hid hs
    have HN := Lib.hid hn
    have hp1 := swp_perm (ts := ts) (i := i) (j := n) (by omega) (by omega)
    have HP1 := Lib.hid hp1
    have hr : removeL ts i = (fixL (swp ts i n) i n).take n := by unfold removeL; rw [hn, Nat.add_sub_cancel, if_neg hin]
    have hlast : g (fixL (swp ts i n) i n) n = g ts i := by
      rw [fixL_past (by omega) (by rw [swp_length]; omega) (Nat.le_refl _), g_swp (by omega) (by omega), if_pos rfl]
    have hfl : (fixL (swp ts i n) i n).length = n + 1 := by rw [fixL_length, swp_length, hn]
    have hpf : (fixL (swp ts i n) i n).Perm ts := (fixL_perm (by omega) (by rw [swp_length]; omega)).trans hp1
    have HR := Lib.hid hr
    have HG := Lib.hid hlast
    have HFL := Lib.hid hfl
    have HPF := Lib.hid hpf
    have hi' : i < n := by omega
    have hcont : ∀ w2 : World, HeapAt w2 p m l v (fixL (swp ts i n) i n) → Calls Try.prog 52 #[.pointer (some ⟨p, 0, none⟩)] w2 fun e w' => e = .returned (.iface 57 (ptrT (g ts i))) ∧
        (∃ v', v'.ownBlock = v.ownBlock ∧ HeapAt w' p m l v' (removeL ts i)) ∧ Keeps (Foot p v ts) w2 w' := by
      intro w2 h2
      have := popAt h2 (by rw [hfl]; omega)
      rw [hfl, Nat.add_sub_cancel, hlast, ← hr] at this
      exact this.mono fun e w' ⟨a, b, c⟩ => ⟨a, b, c.mono fun _ _ hf => hf.perm hpf⟩
    have HCT := Lib.hid hcont
    clear hc h hn hs hp1 hr hlast hfl hpf hcont
    have hd : ∀ w1, HeapAt w1 p m l v (swp ts i n) → _ := fun w1 h1 => downAt h1 (i := i) (n := n) (by omega) (by rw [swp_length, HN.out]; exact Nat.le_succ n) (by rw [swp_length, HN.out]; omega)
    by_cases hj : i < (downL (swp ts i n) i n).2
    · have hj' : decide (i < (downL (swp ts i n) i n).2) = true := by simpa using hj
      rw [hj'] at hd
      have e1 : fixL (swp ts i n) i n = (downL (swp ts i n) i n).1 := by unfold fixL; rw [if_pos hj]
      have HD := Lib.hid hd
      have HE := Lib.hid e1
      clear hd hj' hj e1
      go_enter Try.func26, Try.ntmps26
      go_wp2_with fail
      refine (HC.out).mono ?_; rintro e w1 ⟨rfl, rfl⟩
      clear hm HC
      go_wp2_with fail
      refine (HS.out).mono ?_; rintro e w1 ⟨rfl, h1, hk1⟩
      have H1 := Lib.hid h1
      clear h1 HS hm2
      go_wp2_with fail
      refine (HD.out _ H1.out).mono ?_; rintro e w2 ⟨rfl, h2, hk2⟩
      have hq : Keeps (Foot p v ts) _ w2 := hk1.trans' hk2 fun _ _ hf => hf.perm HP1.out
      rw [← HE.out] at h2
      have H2 := Lib.hid h2
      have hm3 := m_pop p w2
      clear h2 hk1 hk2
      go_wp2_with fail
      refine (HCT.out _ H2.out).mono ?_; rintro e w3 ⟨rfl, ⟨v', hv', h3⟩, hk3⟩
      have hq3 := hq.trans hk3
      have H3 := Lib.hid h3
      have HV := Lib.hid hv'
      clear h3 hv' hm3 hk3 hq
      go_wp2
      go_ret
      exact ⟨rfl, ⟨v', HV.out, H3.out⟩, hq3⟩
    · have hj' : decide (i < (downL (swp ts i n) i n).2) = false := by simpa using hj
      rw [hj'] at hd
      have e1 : fixL (swp ts i n) i n = upL (downL (swp ts i n) i n).1 i := by unfold fixL; rw [if_neg hj]
      have HD := Lib.hid hd
      have HE := Lib.hid e1
      clear hd hj' hj e1
      go_enter Try.func26, Try.ntmps26
      go_wp2_with fail
      refine (HC.out).mono ?_; rintro e w1 ⟨rfl, rfl⟩
      clear hm HC
      go_wp2_with fail
      refine (HS.out).mono ?_; rintro e w1 ⟨rfl, h1, hk1⟩
      have H1 := Lib.hid h1
      clear h1 HS hm2
      go_wp2_with fail
      refine (HD.out _ H1.out).mono ?_; rintro e w2 ⟨rfl, h2, hk2⟩
      have hq : Keeps (Foot p v ts) _ w2 := hk1.trans' hk2 fun _ _ hf => hf.perm HP1.out
      have hu := upAt h2 (j := i) (by rw [downL_length, swp_length, HN.out]; omega) (by rw [downL_length, swp_length, HN.out]; omega)
      have HU := Lib.hid hu
      clear h2 hk1 hk2 hu
      go_wp2_with fail
      refine (HU.out).mono ?_; rintro e w4 ⟨rfl, h4, hk4⟩
      have hq4 : Keeps (Foot p v ts) _ w4 := hq.trans' hk4 fun _ _ hf => (hf.perm (downL_perm (by rw [swp_length, HN.out]; exact Nat.le_succ n))).perm HP1.out
      rw [← HE.out] at h4
      have H4 := Lib.hid h4
      have hm3 := m_pop p w4
      clear h4 hk4 hq
      go_wp2_with fail
      refine (HCT.out _ H4.out).mono ?_; rintro e w3 ⟨rfl, ⟨v', hv', h3⟩, hk3⟩
      have hq3 := hq4.trans hk3
      have H3 := Lib.hid h3
      have HV := Lib.hid hv'
      clear h3 hv' hm3 hk3 hq4
      go_wp2
      go_ret
      exact ⟨rfl, ⟨v', HV.out, H3.out⟩, hq3⟩
end
end Go.Proofs.Ytfecgibdhglhiaa
