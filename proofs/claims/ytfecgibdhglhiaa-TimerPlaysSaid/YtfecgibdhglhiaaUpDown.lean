/-
  The walks of heap.up and heap.down over a heap of timers in memory: they do to the list what upL and downL do.
  Conditions: the line lies in memory as HeapAt says; the place is in it; there are at most 2000.
-/
import Derived.Test.YtfecgibdhglhiaaPush
namespace Go.Proofs.Ytfecgibdhglhiaa
open Go.RowKit
section
variable {w : World} {p : Nat} {m l v : Value} {ts : List T}
def UpRel (w : World) (p : Nat) (m l v : Value) (ts : List T) (j : Nat) (jv : Value) (wr : World) : Prop :=
  ∃ (cur : List T) (k : Nat), jv = .int .i64 k ∧ HeapAt wr p m l v cur ∧ cur.Perm ts ∧ k < ts.length ∧ upL cur k = upL ts j ∧ Keeps (Foot p v ts) w wr
/-- heap.up -/
theorem upAt (h : HeapAt w p m l v ts) {j : Nat} (hj : j < ts.length) (hb : ts.length ≤ 2000) :
    Calls Try.prog 29 #[.iface 72 (.pointer (some ⟨p, 0, none⟩)), .int .i64 j] w fun e w' => e = .returned (.tuple #[]) ∧ HeapAt w' p m l v (upL ts j) ∧ Keeps (Foot p v ts) w w' := by
  go_enter Try.func29, Try.ntmps29
  go_wp2_with fail
  go_loopw [1] (fun jv wr => UpRel w p m l v ts j jv wr) (fun jv _ => (intOf jv).toNat)
  case atStart => exact ⟨ts, j, rfl, h, List.Perm.refl _, hj, rfl, Keeps.refl _ _⟩
  case round =>
    clear h
    obtain ⟨cur, k, rfl, hr, hp, hk, hu, hq⟩ := hrel
    by_cases h0 : k = 0
    · have e1 : ((k : Int) - 1).tdiv 2 = k := by subst h0; rfl
      have hend : upL cur k = cur := by unfold upL; rw [if_neg (by omega)]
      rw [hend] at hu
      subst hu
      have H0 := Lib.hid h0
      clear h0 hend
      have HR := Lib.hid hr
      clear hr
      go_wp2
      go_end0
      exact ⟨rfl, HR.out, hq⟩
    · obtain ⟨i, hi⟩ : ∃ i, (k - 1) / 2 = i := ⟨_, rfl⟩
      have e1 : ((k : Int) - 1).tdiv 2 = i := by
        rw [Int.tdiv_eq_ediv_of_nonneg (by omega)]; omega
      have hik : i < k := by omega
      have e2 : ((i : Int) == k) = false := by simp; omega
      have hlc : cur.length = ts.length := hp.length_eq
      have hm := m_less hr.cell
      by_cases hl : less (g cur k) (g cur i) = true
      · have hend : upL (swp cur i k) i = upL ts j := by
          rw [← hu]; conv => rhs; unfold upL
          rw [if_pos ⟨by omega, by rw [hi]; exact hl⟩, hi]
        have hc := lessAt hr (i := k) (k := i) (by omega) (by omega)
        rw [hl] at hc
        have HC := Lib.hid hc
        have HI := Lib.hid hi
        have HU := Lib.hid hu
        have HE := Lib.hid hend
        have HR := Lib.hid hr
        have HL := Lib.hid hlc
        have HL2 := Lib.hid hl
        clear hc hi hu hend hr hlc hl h0
        go_wp2_with (first
          | (go_at_call 47; refine (HC.out).mono ?_; rintro e w1 ⟨rfl, hk1⟩; have hr1 := Lib.hid (HR.out.keeps hk1 (fun _ _ => id)); have hm2 := m_swap hr1.out.cell; clear hm)
          | (go_at_call 48; refine (swapAt hr1.out (i := i) (k := k) (by rw [HL.out]; omega) (by rw [HL.out]; omega)).mono ?_; rintro e w2 ⟨rfl, hs, hk2⟩; clear hm2))
        go_roundw
        case rel => exact ⟨swp cur i k, i, rfl, hs, (swp_perm (by rw [HL.out]; omega) (by rw [HL.out]; omega)).trans hp, by omega, HE.out, (hq.trans' hk1 (fun _ _ h => h.elim)).trans' hk2 (fun _ _ h => h.perm hp)⟩
        case measure => simp [intOf]; omega
      · have hl' : less (g cur k) (g cur i) = false := by simpa using hl
        have hend : upL ts j = cur := by
          rw [← hu]; unfold upL
          rw [if_neg (fun hh => by rw [hi] at hh; exact hl hh.2)]
        have hc := lessAt hr (i := k) (k := i) (by omega) (by omega)
        rw [hl'] at hc
        have HC := Lib.hid hc
        have HE := Lib.hid hend
        have HR := Lib.hid hr
        clear hc hi hu hend hr hlc hl hl' h0
        go_wp2_with (go_at_call 47; refine (HC.out).mono ?_; rintro e w1 ⟨rfl, hk1⟩; clear hm)
        go_end0
        refine ⟨rfl, ?_, hq.trans' hk1 (fun _ _ h => h.elim)⟩
        rw [HE.out]; exact HR.out.keeps hk1 (fun _ _ => id)

theorem downL_go {ts : List T} {i n j : Nat} (h : 2 * i + 1 < n) (hc : child ts i n = j) (hl : less (g ts j) (g ts i) = true) : downL ts i n = downL (swp ts i j) j n := by
  conv => lhs; unfold downL
  rw [dif_pos h, hc, if_pos hl]
def DownRel (w : World) (p : Nat) (m l v : Value) (ts : List T) (i n : Nat) (iv : Value) (wr : World) : Prop :=
  ∃ (cur : List T) (k : Nat), iv = .int .i64 k ∧ HeapAt wr p m l v cur ∧ cur.Perm ts ∧ k ≤ 2000 ∧ downL cur k n = downL ts i n ∧ Keeps (Foot p v ts) w wr
set_option maxHeartbeats 2000000 in
/-- heap.down -/
theorem downAt (h : HeapAt w p m l v ts) {i n : Nat} (hi : i ≤ 2000) (hn : n ≤ ts.length) (hb : ts.length ≤ 2000) :
    Calls Try.prog 28 #[.iface 72 (.pointer (some ⟨p, 0, none⟩)), .int .i64 i, .int .i64 n] w fun e w' => e = .returned (.bool (decide (i < (downL ts i n).2))) ∧ HeapAt w' p m l v (downL ts i n).1 ∧ Keeps (Foot p v ts) w w' := by
  go_enter Try.func28, Try.ntmps28
  go_wp2_with fail
  go_loopw [7] (fun jv wr => DownRel w p m l v ts i n jv wr) (fun jv _ => n - (intOf jv).toNat)
  case atStart => exact ⟨ts, i, rfl, h, List.Perm.refl _, hi, rfl, Keeps.refl _ _⟩
  case round =>
    clear h
    obtain ⟨cur, k, rfl, hr, hp, hk, hu, hq⟩ := hrel
    by_cases h0 : 2 * k + 1 < n
    · obtain ⟨a, ha⟩ : ∃ a, 2 * k + 1 = a := ⟨_, rfl⟩
      obtain ⟨b, hb'⟩ : ∃ b, 2 * k + 2 = b := ⟨_, rfl⟩
      have e1 : 2 * (k : Int) + 1 = a := by omega
      have e2 : (a : Int) + 1 = b := by omega
      have hlc : cur.length = ts.length := hp.length_eq
      by_cases hbn : b < n
      · by_cases hl1 : less (g cur b) (g cur a) = true
        · by_cases hl2 : less (g cur b) (g cur k) = true
          · have hc1 := lessAt hr (i := b) (k := a) (by omega) (by omega)
            rw [hl1] at hc1
            have HC1 := Lib.hid hc1
            have hch : child cur k n = b := by unfold child; rw [if_pos ⟨by omega, by rw [hb', ha]; exact hl1⟩]; omega
            have hend : downL (swp cur k b) b n = downL ts i n := by rw [← hu]; exact (downL_go h0 hch hl2).symm
            have hm := m_less hr.cell
            have HE := Lib.hid hend
            have HR := Lib.hid hr
            have HL := Lib.hid hlc
            have HL2 := Lib.hid hl2
            have hjn : b < n := by omega
            have hkn : k < b := by omega
            clear hend hr hlc hl2 h0 ha hb' hch hu hc1 hl1
            go_wp2_with fail
            refine (HC1.out).mono ?_; rintro e w1 ⟨rfl, hk1⟩
            have hr1 := Lib.hid (HR.out.keeps hk1 (fun _ _ => id)); have hq1 := hq.trans' hk1 (fun _ _ h => h.elim); have hm1 := m_less hr1.out.cell; clear hm hk1 HC1 hq
            go_wp2_with fail
            have hc2 := lessAt hr1.out (i := b) (k := k) (by rw [HL.out]; omega) (by rw [HL.out]; omega)
            rw [HL2.out] at hc2
            refine hc2.mono ?_; rintro e w2 ⟨rfl, hk2⟩
            have hr2 := Lib.hid (hr1.out.keeps hk2 (fun _ _ => id)); have hq2 := hq1.trans' hk2 (fun _ _ h => h.elim); have hm2 := m_swap hr2.out.cell; clear hm1 hk2 hc2 hq1
            go_wp2_with fail
            refine (swapAt hr2.out (i := k) (k := b) (by rw [HL.out]; omega) (by rw [HL.out]; omega)).mono ?_; rintro e w3 ⟨rfl, hs, hk3⟩
            have hq3 := hq2.trans' hk3 (fun _ _ h => h.perm hp); clear hm2 hk3 hq2
            go_wp2
            go_roundw
            case rel => exact ⟨swp cur k b, b, rfl, hs, (swp_perm (by rw [HL.out]; omega) (by rw [HL.out]; omega)).trans hp, by omega, HE.out, hq3⟩
            case measure => simp [intOf]; omega
          · have hl2 : less (g cur b) (g cur k) = false := by simpa using hl2
            have hc1 := lessAt hr (i := b) (k := a) (by omega) (by omega)
            rw [hl1] at hc1
            have HC1 := Lib.hid hc1
            have hch : child cur k n = b := by unfold child; rw [if_pos ⟨by omega, by rw [hb', ha]; exact hl1⟩]; omega
            have hend : downL ts i n = (cur, k) := by rw [← hu]; unfold downL; rw [dif_pos h0, hch, if_neg (by rw [hl2]; exact Bool.noConfusion)]
            have hm := m_less hr.cell
            have HE := Lib.hid hend
            have HR := Lib.hid hr
            have HL := Lib.hid hlc
            have HL2 := Lib.hid hl2
            have hjn : b < n := by omega
            have hkn : k < b := by omega
            clear hend hr hlc hl2 h0 ha hb' hch hu hc1 hl1
            go_wp2_with fail
            refine (HC1.out).mono ?_; rintro e w1 ⟨rfl, hk1⟩
            have hr1 := Lib.hid (HR.out.keeps hk1 (fun _ _ => id)); have hq1 := hq.trans' hk1 (fun _ _ h => h.elim); have hm1 := m_less hr1.out.cell; clear hm hk1 HC1 hq
            go_wp2_with fail
            have hc2 := lessAt hr1.out (i := b) (k := k) (by rw [HL.out]; omega) (by rw [HL.out]; omega)
            rw [HL2.out] at hc2
            refine hc2.mono ?_; rintro e w2 ⟨rfl, hk2⟩
            have hr2 := Lib.hid (hr1.out.keeps hk2 (fun _ _ => id)); have hq2 := hq1.trans' hk2 (fun _ _ h => h.elim); have hm2 := m_swap hr2.out.cell; clear hm1 hk2 hc2 hq1
            clear hm2
            go_wp2
            go_ret
            rw [HE.out]
            exact ⟨by simp, hr2.out, hq2⟩
        · have hl1 : less (g cur b) (g cur a) = false := by simpa using hl1
          by_cases hl2 : less (g cur a) (g cur k) = true
          · have hc1 := lessAt hr (i := b) (k := a) (by omega) (by omega)
            rw [hl1] at hc1
            have HC1 := Lib.hid hc1
            have hch : child cur k n = a := by unfold child; rw [if_neg (fun hh => by rw [hb', ha, hl1] at hh; exact Bool.noConfusion hh.2)]; omega
            have hend : downL (swp cur k a) a n = downL ts i n := by rw [← hu]; exact (downL_go h0 hch hl2).symm
            have hm := m_less hr.cell
            have HE := Lib.hid hend
            have HR := Lib.hid hr
            have HL := Lib.hid hlc
            have HL2 := Lib.hid hl2
            have hjn : a < n := by omega
            have hkn : k < a := by omega
            clear hend hr hlc hl2 h0 ha hb' hch hu hc1 hl1
            go_wp2_with fail
            refine (HC1.out).mono ?_; rintro e w1 ⟨rfl, hk1⟩
            have hr1 := Lib.hid (HR.out.keeps hk1 (fun _ _ => id)); have hq1 := hq.trans' hk1 (fun _ _ h => h.elim); have hm1 := m_less hr1.out.cell; clear hm hk1 HC1 hq
            go_wp2_with fail
            have hc2 := lessAt hr1.out (i := a) (k := k) (by rw [HL.out]; omega) (by rw [HL.out]; omega)
            rw [HL2.out] at hc2
            refine hc2.mono ?_; rintro e w2 ⟨rfl, hk2⟩
            have hr2 := Lib.hid (hr1.out.keeps hk2 (fun _ _ => id)); have hq2 := hq1.trans' hk2 (fun _ _ h => h.elim); have hm2 := m_swap hr2.out.cell; clear hm1 hk2 hc2 hq1
            go_wp2_with fail
            refine (swapAt hr2.out (i := k) (k := a) (by rw [HL.out]; omega) (by rw [HL.out]; omega)).mono ?_; rintro e w3 ⟨rfl, hs, hk3⟩
            have hq3 := hq2.trans' hk3 (fun _ _ h => h.perm hp); clear hm2 hk3 hq2
            go_wp2
            go_roundw
            case rel => exact ⟨swp cur k a, a, rfl, hs, (swp_perm (by rw [HL.out]; omega) (by rw [HL.out]; omega)).trans hp, by omega, HE.out, hq3⟩
            case measure => simp [intOf]; omega
          · have hl2 : less (g cur a) (g cur k) = false := by simpa using hl2
            have hc1 := lessAt hr (i := b) (k := a) (by omega) (by omega)
            rw [hl1] at hc1
            have HC1 := Lib.hid hc1
            have hch : child cur k n = a := by unfold child; rw [if_neg (fun hh => by rw [hb', ha, hl1] at hh; exact Bool.noConfusion hh.2)]; omega
            have hend : downL ts i n = (cur, k) := by rw [← hu]; unfold downL; rw [dif_pos h0, hch, if_neg (by rw [hl2]; exact Bool.noConfusion)]
            have hm := m_less hr.cell
            have HE := Lib.hid hend
            have HR := Lib.hid hr
            have HL := Lib.hid hlc
            have HL2 := Lib.hid hl2
            have hjn : a < n := by omega
            have hkn : k < a := by omega
            clear hend hr hlc hl2 h0 ha hb' hch hu hc1 hl1
            go_wp2_with fail
            refine (HC1.out).mono ?_; rintro e w1 ⟨rfl, hk1⟩
            have hr1 := Lib.hid (HR.out.keeps hk1 (fun _ _ => id)); have hq1 := hq.trans' hk1 (fun _ _ h => h.elim); have hm1 := m_less hr1.out.cell; clear hm hk1 HC1 hq
            go_wp2_with fail
            have hc2 := lessAt hr1.out (i := a) (k := k) (by rw [HL.out]; omega) (by rw [HL.out]; omega)
            rw [HL2.out] at hc2
            refine hc2.mono ?_; rintro e w2 ⟨rfl, hk2⟩
            have hr2 := Lib.hid (hr1.out.keeps hk2 (fun _ _ => id)); have hq2 := hq1.trans' hk2 (fun _ _ h => h.elim); have hm2 := m_swap hr2.out.cell; clear hm1 hk2 hc2 hq1
            clear hm2
            go_wp2
            go_ret
            rw [HE.out]
            exact ⟨by simp, hr2.out, hq2⟩
      · by_cases hl2 : less (g cur a) (g cur k) = true
        · have hch : child cur k n = a := by unfold child; rw [if_neg (fun hh => by omega)]; omega
          have hend : downL (swp cur k a) a n = downL ts i n := by rw [← hu]; exact (downL_go h0 hch hl2).symm
          have hm := m_less hr.cell
          have HE := Lib.hid hend
          have HR := Lib.hid hr
          have HL := Lib.hid hlc
          have HL2 := Lib.hid hl2
          have hjn : a < n := by omega
          have hkn : k < a := by omega
          clear hend hr hlc hl2 h0 ha hb' hch hu
          have hbn' : n ≤ b := by omega
          clear hbn
          go_wp2_with fail
          have hr1 := HR; have hq1 := hq; have hm1 := hm; clear hm hq
          have hc2 := lessAt hr1.out (i := a) (k := k) (by rw [HL.out]; omega) (by rw [HL.out]; omega)
          rw [HL2.out] at hc2
          refine hc2.mono ?_; rintro e w2 ⟨rfl, hk2⟩
          have hr2 := Lib.hid (hr1.out.keeps hk2 (fun _ _ => id)); have hq2 := hq1.trans' hk2 (fun _ _ h => h.elim); have hm2 := m_swap hr2.out.cell; clear hm1 hk2 hc2 hq1
          go_wp2_with fail
          refine (swapAt hr2.out (i := k) (k := a) (by rw [HL.out]; omega) (by rw [HL.out]; omega)).mono ?_; rintro e w3 ⟨rfl, hs, hk3⟩
          have hq3 := hq2.trans' hk3 (fun _ _ h => h.perm hp); clear hm2 hk3 hq2
          go_wp2
          go_roundw
          case rel => exact ⟨swp cur k a, a, rfl, hs, (swp_perm (by rw [HL.out]; omega) (by rw [HL.out]; omega)).trans hp, by omega, HE.out, hq3⟩
          case measure => simp [intOf]; omega
        · have hl2 : less (g cur a) (g cur k) = false := by simpa using hl2
          have hch : child cur k n = a := by unfold child; rw [if_neg (fun hh => by omega)]; omega
          have hend : downL ts i n = (cur, k) := by rw [← hu]; unfold downL; rw [dif_pos h0, hch, if_neg (by rw [hl2]; exact Bool.noConfusion)]
          have hm := m_less hr.cell
          have HE := Lib.hid hend
          have HR := Lib.hid hr
          have HL := Lib.hid hlc
          have HL2 := Lib.hid hl2
          have hjn : a < n := by omega
          have hkn : k < a := by omega
          clear hend hr hlc hl2 h0 ha hb' hch hu
          have hbn' : n ≤ b := by omega
          clear hbn
          go_wp2_with fail
          have hr1 := HR; have hq1 := hq; have hm1 := hm; clear hm hq
          have hc2 := lessAt hr1.out (i := a) (k := k) (by rw [HL.out]; omega) (by rw [HL.out]; omega)
          rw [HL2.out] at hc2
          refine hc2.mono ?_; rintro e w2 ⟨rfl, hk2⟩
          have hr2 := Lib.hid (hr1.out.keeps hk2 (fun _ _ => id)); have hq2 := hq1.trans' hk2 (fun _ _ h => h.elim); have hm2 := m_swap hr2.out.cell; clear hm1 hk2 hc2 hq1
          clear hm2
          go_wp2
          go_ret
          rw [HE.out]
          exact ⟨by simp, hr2.out, hq2⟩
    · have hend : downL cur k n = (cur, k) := by unfold downL; rw [dif_neg h0]
      rw [hend] at hu
      have HR := Lib.hid hr
      have HU := Lib.hid hu
      clear hr hu hend
      go_wp2
      go_ret
      rw [← HU.out]
      exact ⟨by simp, HR.out, hq⟩
end
end Go.Proofs.Ytfecgibdhglhiaa
