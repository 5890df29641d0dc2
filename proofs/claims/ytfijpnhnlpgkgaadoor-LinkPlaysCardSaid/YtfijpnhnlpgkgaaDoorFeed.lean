/-
  The frame reader's New, Left, Bad and Feed walked: what Feed tells, what it leaves, what it holds to be wrong.
  Conditions: the variables errShort and errors.errorType hold what the text lays; the buffer takes at most 2^47 bytes, and there are at most 2^40 messages in it.
-/
import Derived.Test.YtfijpnhnlpgkgaaDoorNext
import Derived.Test.YtfijpnhnlpgkgaaDoorAs
namespace Go.Proofs.YtfijpnhnlpgkgaaDoor
open Go.RowKit
theorem Tryd.info5 : (Tryd.prog.info? 5).map (fun i => (i.zero, i.size, i.bytes)) = some (some (.int .u8 0), 1, 1) := by kernel_rfl
theorem Tryd.info9 : (Tryd.prog.info? 9).map (fun i => (i.zero, i.size, i.bytes)) = some (some (.string .empty), 1, 16) := by kernel_rfl
theorem as_hit' (n : Int) (t : Nat) (old : Value) (w : World) (g : Glob w) (ht : w.heap[t]? = some (.cells #[old] 82 (0, 0))) :
    Calls Tryd.prog 40 #[.iface 82 (.agg #[.int .i64 n]), .iface 84 (.pointer (some ⟨t, 0, none⟩))] w fun ev w' => ev = .returned (.bool true) ∧ Keeps (fun b => b = t) w w' ∧ w'.heap[t]? = some (.cells #[.int .i64 n] 82 (0, 0)) := by
  refine (as_hit n t old w g.et (by rw [cell_at ht]; rfl) (free_at ht 0)).mono ?_
  rintro ev w' ⟨rfl, rfl⟩
  unfold asWorld
  refine ⟨rfl, (((((Keeps.refl (fun b => b = t) w).alloc _).alloc _).alloc _).alloc _).setCell (p := ⟨t, 0, none⟩) (fun _ => rfl) _, ?_⟩
  have hl := lt_at ht
  rw [block_same (c := #[old]) (e := 82) (fr := (0, 0))]
  · rfl
  · rw [Below.heap_alloc _ _ _ (by simp; omega), Below.heap_alloc _ _ _ (by simp; omega), Below.heap_alloc _ _ _ (by simp; omega), Below.heap_alloc _ _ _ hl, ht]
theorem as_miss' (v : Value) (t : Nat) (w : World) (g : Glob w) :
    Calls Tryd.prog 40 #[.iface 122 v, .iface 84 (.pointer (some ⟨t, 0, none⟩))] w fun ev w' => ev = .returned (.bool false) ∧ Keeps (fun _ => False) w w' := by
  refine (as_miss v t w g.et).mono ?_
  rintro ev w' ⟨rfl, rfl⟩
  unfold missWorld
  exact ⟨rfl, (((Keeps.refl _ _).alloc _).alloc _).alloc _⟩
theorem as_nil' (t : Value) (w : World) : Calls Tryd.prog 40 #[.nilIface, t] w fun e w' => e = .returned (.bool false) ∧ w = w' :=
  (as_nil t w).mono fun _ _ ⟨h1, h2⟩ => ⟨h1, h2.symm⟩

theorem new_any (w : World) : Calls Tryd.prog 16 #[] w fun e w' => e = .returned (.pointer (some ⟨w.heap.size, 0, none⟩)) ∧ w' = w.alloc (.cells #[.slice none 0 0, .int .i64 0] 76) := by
  go_enter Tryd.func16, Tryd.ntmps16
  go_wp2
  go_ret
  exact ⟨rfl, rfl⟩
theorem rd_new (w : World) : Rd (w.alloc (.cells #[.slice none 0 0, .int .i64 0] 76)) (fun b => b = w.heap.size) w.heap.size [] 0 :=
  ⟨.slice none 0 0, heap_alloc_new _ _, RowAt.nil _ _, fun b => by simp [Value.ownBlock]⟩
section
variable {w w' : World} {F G : Nat → Prop} {r : Nat} {l : Bs} {e : Int}
theorem left_any (h : Rd w F r l e) : Calls Tryd.prog 20 #[.pointer (some ⟨r, 0, none⟩)] w fun ev w' => ev = .returned (.int .i64 l.length) ∧ w = w' := by
  obtain ⟨v, h1, h2, h3⟩ := h
  obtain ⟨va, vc, rfl⟩ := h2.val
  have hc : w.cell? ⟨r, 0, none⟩ = some (.slice va l.length vc) := by rw [cell_at h1]; simp
  have hrl := lt_at h1
  clear h1 h2 h3
  go_enter Tryd.func20, Tryd.ntmps20
  go_wp2
  go_ret
  exact ⟨rfl, rfl⟩
theorem bad_any (h : Rd w F r l e) : Calls Tryd.prog 21 #[.pointer (some ⟨r, 0, none⟩)] w fun ev w' => ev = .returned (.bool (e != 0)) ∧ w = w' := by
  obtain ⟨v, h1, h2, h3⟩ := h
  have hc : w.cell? ⟨r, 1, none⟩ = some (.int .i64 e) := by rw [cell_at h1]; simp
  have hrl := lt_at h1
  clear h1 h2 h3
  go_enter Tryd.func21, Tryd.ntmps21
  go_wp2
  go_ret
  exact ⟨rfl, rfl⟩
/-- a reader that holds an error tells it -/
def BadOut (e : Int) (w : World) (ev : Ending) (w' : World) : Prop := ev = .returned (.tuple #[.slice none 0 0, .int .i64 e]) ∧ Keeps (fun _ => False) w w'
theorem feed_bad (h : Rd w F r l e) (he : e ≠ 0) (s : ByteArray) : Calls Tryd.prog 18 #[.pointer (some ⟨r, 0, none⟩), .string s] w (BadOut e w) := by
  have CB := Lib.hid (bad_any h)
  obtain ⟨v, h1, h2, h3⟩ := h
  have hc : w.cell? ⟨r, 1, none⟩ = some (.int .i64 e) := by rw [cell_at h1]; simp
  have hrl := lt_at h1
  have hb : (e != 0) = true := by simpa using he
  rw [hb] at CB
  clear h1 h2 h3 hb he
  go_enter Tryd.func18, Tryd.ntmps18
  go_wp2_with fail
  refine CB.out.mono ?_; rintro ev w' ⟨rfl, rfl⟩
  go_wp2_with fail
  go_quiet (fail)
  go_wp2_with fail
  go_ret2
  exact ⟨rfl, (Keeps.refl _ _).drewN _⟩
end
def FeedOut (w : World) (F : Nat → Prop) (r : Nat) (l : Bs) (ev : Ending) (w' : World) : Prop :=
  ∃ ov F', ev = .returned (.tuple #[ov, .int .i64 (parse l).2.2]) ∧ RowAt w' 9 ov ((parse l).1.map sV) ∧ Rd w' F' r (parse l).2.1 (parse l).2.2 ∧
    (∀ b, F' b → F b ∨ w.heap.size ≤ b) ∧ (∀ b, ov.ownBlock = some b → w.heap.size ≤ b ∧ ¬ F' b) ∧ Keeps F w w'
def FeedAt (w : World) (F : Nat → Prop) (r : Nat) (l0 : Bs) (ov : Value) (wr : World) : Prop :=
  ∃ ms l F', Rd wr F' r l 0 ∧ RowAt wr 9 ov (ms.map sV) ∧ parse l0 = (ms ++ (parse l).1, (parse l).2) ∧
    (∀ b, F' b → F b ∨ w.heap.size ≤ b) ∧ (∀ b, ov.ownBlock = some b → w.heap.size ≤ b ∧ ¬ F' b) ∧ Keeps F w wr
def rdLen (r : Nat) (w : World) : Nat := match w.cell? ⟨r, 0, none⟩ with | some (.slice _ n _) => n | _ => 0
theorem Rd.len {w : World} {F : Nat → Prop} {r : Nat} {l : Bs} {e : Int} (h : Rd w F r l e) : rdLen r w = l.length := by
  obtain ⟨v, h1, h2, _⟩ := h
  obtain ⟨va, vc, rfl⟩ := h2.val
  unfold rdLen
  rw [cell_at h1]; simp
theorem heap_alloc_new2 (w : World) (o1 o2 : Obj) : ((w.alloc o1).alloc o2).heap[w.heap.size + 1]? = some o2 := by have := heap_alloc_new (w.alloc o1) o2; simpa using this
set_option maxRecDepth 100000 in
set_option maxHeartbeats 2000000 in
theorem feed_ok0 {w : World} {F : Nat → Prop} {r : Nat} {l : Bs} (h : Rd w F r l 0) (g : Glob w) (hF : ∀ b, F b → 2 ≤ b) (c l0 : Bs) (hl0 : l ++ c = l0) (hl : l.length + c.length ≤ 140737488355328) (hm : (parse l0).1.length ≤ 1099511627776) :
    Calls Tryd.prog 18 #[.pointer (some ⟨r, 0, none⟩), .string (mk c)] w (FeedOut w F r l0) := by
  obtain ⟨i5, hi5, hx0, hx1, hx2⟩ := info_parts Tryd.info5
  obtain ⟨i9, hi9, hy0, hy1, hy2⟩ := info_parts Tryd.info9
  have CB := Lib.hid (bad_any h)
  obtain ⟨v, h1, h2, h3⟩ := h
  obtain ⟨va, vc, rfl⟩ := h2.val
  rw [List.length_map] at h1 h2 h3
  have hc : w.cell? ⟨r, 0, none⟩ = some (.slice va l.length vc) := by rw [cell_at h1]; rfl
  have hrl := lt_at h1
  have H1 := Lib.hid h1
  have H2 := Lib.hid h2
  have H3 := Lib.hid h3
  have HG := Lib.hid g
  have HFF := Lib.hid hF
  have HM := Lib.hid hm
  have HL0 := Lib.hid hl0
  have hcl : (c.map uV).length = c.length := List.length_map ..
  have HSrc := Lib.hid (fun W => (Src.ofString (P := Tryd.prog) W Tryd.underlying9 (mk c)))
  clear h1 h2 h3 g hF hm hl0
  go_enter Tryd.func18, Tryd.ntmps18
  go_wp2_with fail
  refine CB.out.mono ?_; rintro ev w' ⟨rfl, rfl⟩
  clear CB
  go_wp2_with (at_builtin; refine wpList_app_row rfl _ _ 41 9 rfl 5 i5 (.int .u8 0) 1 Tryd.underlying41 hi5 hx0 hx1 hx2 rfl _ (l.map uV) rfl H2.out _ (mk c).size (byteCells (mk c)) rfl (HSrc.out _) ?cC ?cD ?_)
  case cC => rw [List.length_map, mk_size]; simp [maxLen]; omega
  case cD => rw [List.length_map, mk_size]; omega
  rw [byteCells_mk, ← List.map_append, HL0.out]
  intro v1 w1 r1 k1 n1
  obtain ⟨a1, c1, rfl⟩ := r1.val
  rw [List.length_map] at r1 n1 ⊢
  have hne := row_ne H2.out H1.out (by decide)
  have hr1 : w1.heap[r]? = some (.cells #[.slice va l.length vc, .int .i64 0] 76 (0, 0)) := (k1.block r hrl hne).trans H1.out
  have hne1 := row_ne r1 hr1 (by decide)
  have hc1 : w1.cell? ⟨r, 0, none⟩ = some (.slice va l.length vc) := by rw [cell_at hr1]; rfl
  have hf1 := free_at hr1 0
  have hat : FeedAt w F r l0 (.slice none 0 0) (w1.setCell ⟨r, 0, none⟩ (.slice a1 l0.length c1)) := by
    refine ⟨[], l0, fun b => b = r ∨ (Value.slice a1 l0.length c1).ownBlock = some b, ⟨_, by rw [block_same hr1]; rfl, r1.of_same fun k hk => block_other _ _ _ _ fun e => hne1 (e ▸ hk), fun _ => Iff.rfl⟩, RowAt.nil _ _, by simp, fun b hb => ?_, nofun, ?_⟩
    · rcases hb with rfl | hb
      · exact .inl ((H3.out b).2 (.inl rfl))
      · exact (n1 b hb).imp (fun h => (H3.out b).2 (.inr h)) id
    · exact (k1.mono fun b _ hb => (H3.out b).2 (.inr hb)).setCell (fun _ => (H3.out r).2 (.inl rfl)) _
  have HA := Lib.hid hat
  clear hat r1 k1 n1 hne hr1 hne1 HL0 hcl hl H1 H2 H3 HSrc
  go_wp2_with fail
  clear hc1 hf1 hc
  go_loopw [6] (fun ov wr => FeedAt w F r l0 ov wr) (fun _ wr => rdLen r wr)
  case atStart => exact HA.out
  case round =>
    clear HA
    obtain ⟨ms, m, F', h1, h2, h3, h4, h5, h6⟩ := hrel
    have hF' : ∀ b, F' b → 2 ≤ b := fun b hb => by
      rcases h4 b hb with h | h
      · exact HFF.out b h
      · have := HG.out.size; omega
    have hg : Glob wr := HG.out.keeps h6 HFF.out
    have hlr := h1.len
    have hcases : (Calls Tryd.prog 39 #[.pointer (some ⟨r, 0, none⟩)] wr (ShortOut wr) ∧ parse m = ([], m, 0)) ∨
        (∃ n : Int, n ≠ 0 ∧ Calls Tryd.prog 39 #[.pointer (some ⟨r, 0, none⟩)] wr (fun ev w' => ev = .returned (.tuple #[.string .empty, .iface 82 (.agg #[.int .i64 n])]) ∧ wr = w') ∧ parse m = ([], [], n)) ∨
        (Calls Tryd.prog 39 #[.pointer (some ⟨r, 0, none⟩)] wr (MsgOut wr F' r m 0) ∧ parse m = (((m.drop 4).take (be4 m)) :: (parse (m.drop (4 + be4 m))).1, (parse (m.drop (4 + be4 m))).2) ∧ (m.drop (4 + be4 m)).length < m.length) := by
      by_cases hs : m.length < 4
      · exact .inl ⟨next_short h1 hg hs, parse_short hs⟩
      by_cases hz : be4 m = 0
      · exact .inr (.inl ⟨2, by decide, next_zero h1 (by omega) hz, parse_zero (by omega) hz⟩)
      by_cases hlg : 65536 < be4 m
      · exact .inr (.inl ⟨3, by decide, next_long h1 (by omega) hlg, parse_long (by omega) hlg⟩)
      by_cases hw : m.length < 4 + be4 m
      · exact .inl ⟨next_wait h1 hg (by omega) hz (by omega) hw, parse_wait (by omega) hz (by omega) hw⟩
      exact .inr (.inr ⟨next_msg h1 hz (by omega) (by omega), parse_msg hz (by omega) (by omega), by rw [List.length_drop]; omega⟩)
    have hov := h2.val
    obtain ⟨oa, oc, rfl⟩ := hov
    rw [List.length_map] at h2 h5
    have HH := Lib.hid (⟨h1, h2, h3, h4, h5, h6⟩ : Rd wr F' r m 0 ∧ RowAt wr 9 (.slice oa ms.length oc) (ms.map sV) ∧ parse l0 = (ms ++ (parse m).1, (parse m).2) ∧ (∀ b, F' b → F b ∨ w.heap.size ≤ b) ∧ (∀ b, (Value.slice oa ms.length oc).ownBlock = some b → w.heap.size ≤ b ∧ ¬ F' b) ∧ Keeps F w wr)
    have HGr := Lib.hid hg
    have HF' := Lib.hid hF'
    have HLr := Lib.hid hlr
    have hrr := h1.lt h1.own
    clear h1 h2 h3 h4 h5 h6 hg hF' hlr
    simp only [List.length_map]
    rcases hcases with ⟨hn, hp⟩ | ⟨n, hn0, hn, hp⟩ | ⟨hn, hp, hlt⟩
    · have CN := Lib.hid hn
      have HE := Lib.hid (show ∀ W, Keeps (fun _ => False) wr W → FeedOut w F r l0 (.returned (.tuple #[.slice oa ms.length oc, .int .i64 0])) W from fun W hW => by
        obtain ⟨h1, h2, h3, h4, h5, h6⟩ := HH.out
        rw [hp] at h3
        refine ⟨_, F', by rw [h3], ?_, ?_, h4, h5, h6.trans (hW.mono fun _ _ h => h.elim)⟩
        · rw [h3]; simpa using h2.keeps hW fun _ _ => id
        · rw [h3]; exact h1.keeps hW fun _ _ => id)
      clear hn hp
      go_wp2_with fail
      refine CN.out.mono ?_; rintro ev w2 ⟨a, rfl, k2⟩
      have K2 := Lib.hid k2
      clear CN k2
      go_wp2_with fail
      refine (as_miss' _ _ _ (HGr.out.keeps (K2.out.alloc _) nofun)).mono ?_; rintro ev w3 ⟨rfl, k3⟩
      have K3 := Lib.hid ((K2.out.alloc _).trans k3)
      clear k3 K2
      go_wp2_with fail
      go_ret2
      exact HE.out _ K3.out
    · have CN := Lib.hid hn
      have HE := Lib.hid (show ∀ W W3, Keeps (fun b => b = r) W3 W → Keeps (fun _ => False) wr W3 → W.heap[r]? = some (.cells #[.slice none 0 0, .int .i64 n] 76 (0, 0)) → FeedOut w F r l0 (.returned (.tuple #[.slice oa ms.length oc, .int .i64 n])) W from fun W W3 hW hW3 hr => by
        obtain ⟨h1, h2, h3, h4, h5, h6⟩ := HH.out
        rw [hp] at h3
        have hk : Keeps (fun b => b = r) wr W := (hW3.mono fun _ _ h => h.elim).trans hW
        refine ⟨_, fun b => b = r, by rw [h3], ?_, ?_, fun b hb => ?_, fun b hb => ⟨(h5 b hb).1, fun e => ?_⟩, h6.trans' hk fun i hi e => ?_⟩
        · rw [h3]; simpa using h2.keeps hk fun b hb e => (h5 b hb).2 (e ▸ h1.own)
        · rw [h3]; exact ⟨_, hr, RowAt.nil _ _, fun b => by simp [Value.ownBlock]⟩
        · exact h4 b (hb ▸ h1.own)
        · exact (h5 b hb).2 (e ▸ h1.own)
        · subst e; rcases h4 i h1.own with h | h
          · exact h
          · omega)
      have hr0 : ∃ v, wr.heap[r]? = some (.cells #[v, .int .i64 0] 76 (0, 0)) := by obtain ⟨⟨v, h1, _⟩, _⟩ := HH.out; exact ⟨v, h1⟩
      have HR0 := Lib.hid hr0
      clear hn hp hr0
      go_wp2_with fail
      refine CN.out.mono ?_; rintro ev w2 ⟨rfl, rfl⟩
      clear CN
      go_wp2_with fail
      refine (as_hit' n _ (.int .i64 0) _ (HGr.out.keeps ((Keeps.refl (fun _ => False) _).alloc _) nofun) (heap_alloc_new _ _)).mono ?_; rintro ev w3 ⟨rfl, k3, hb3⟩
      obtain ⟨v, hr0⟩ := HR0.out
      have hk3 : Keeps (fun _ => False) wr w3 := ((Keeps.refl _ _).alloc _).trans' k3 fun i hi e => by omega
      have hr3 : w3.heap[r]? = some (.cells #[v, .int .i64 0] 76 (0, 0)) := (hk3.block r hrr id).trans hr0
      have e0 : w3.cell? ⟨r, 0, none⟩ = some v := by rw [cell_at hr3]; rfl
      have e1 : w3.cell? ⟨r, 1, none⟩ = some (.int .i64 0) := by rw [cell_at hr3]; rfl
      have f0 := free_at hr3 0
      have f1 := free_at hr3 1
      have en : w3.cell? ⟨wr.heap.size, 0, none⟩ = some (.int .i64 n) := by rw [cell_at hb3]; rfl
      have hl3 : r < w3.heap.size := Nat.lt_of_lt_of_le hrr hk3.size
      have hE3 := Lib.hid (show ∀ k, FeedOut w F r l0 (.returned (.tuple #[.slice oa ms.length oc, .int .i64 n])) (((w3.setCell ⟨r, 0, none⟩ (.slice none 0 0)).setCell ⟨r, 1, none⟩ (.int .i64 n)).drewN k) from fun k =>
        HE.out _ w3 ((((Keeps.refl (fun b => b = r) _).setCell (p := ⟨r, 0, none⟩) (fun _ => rfl) _).setCell (p := ⟨r, 1, none⟩) (fun _ => rfl) _).drewN k) hk3 (by
          show ((w3.setCell ⟨r, 0, none⟩ (.slice none 0 0)).setCell ⟨r, 1, none⟩ (.int .i64 n)).heap[r]? = _
          rw [block_same (block_same hr3 0 (.slice none 0 0))]; rfl))
      clear k3 hb3 hr0 hk3 hr3 HR0 HE
      go_wp2_with fail
      go_quiet (fail)
      go_wp2_with fail
      go_ret2
      exact hE3.out _
    · have CN := Lib.hid hn
      have HP := Lib.hid hp
      have HLT := Lib.hid hlt
      have hms : ms.length + 1 ≤ 1099511627776 := by
        have h3 := HH.out.2.2.1
        have := HM.out
        rw [h3, hp] at this
        simp only [List.length_append, List.length_cons] at this
        omega
      have hone : ∀ x : Bs, (sV x).oneCell' = true := fun _ => rfl
      clear hn hp hlt
      go_wp2_with fail
      refine CN.out.mono ?_; rintro ev w2 ⟨rfl, hrd, k2⟩
      obtain ⟨x, hx⟩ : ∃ x, (m.drop 4).take (be4 m) = x := ⟨_, rfl⟩
      have HX := Lib.hid hx
      rw [hx]
      have K2 := Lib.hid k2
      have RD := Lib.hid hrd
      clear CN k2 hrd hx
      unfold sV
      go_wp2_with fail
      refine (as_nil' _ _).mono ?_; rintro ev w3 ⟨rfl, rfl⟩
      have hro : RowAt w2 9 (.slice oa ms.length oc) (ms.map sV) := HH.out.2.1.keeps K2.out fun b hb => (HH.out.2.2.2.2.1 b hb).2
      have HRO := Lib.hid hro
      clear hro
      go_wp2_with (at_builtin; refine wpList_app_row rfl _ _ 32 32 rfl 9 i9 (.string ByteArray.empty) 16 Tryd.underlying32 hi9 hy0 hy1 hy2 rfl _ (ms.map sV) rfl (HRO.out.keeps (((Keeps.refl (fun _ => False) _).alloc _).alloc _) fun _ _ => id) _ 1 [sV x] rfl ?cB (by simp [maxLen]; omega) (by simp; omega) ?_)
      case cB => exact RowAt.src (e := 9) (xs := [sV x]) Tryd.underlying32 (.inr ⟨_, 0, 1, #[sV x], rfl, heap_alloc_new2 _ _ _, by simp, by simp [maxLen], by simp, by simp⟩) (fun u hu => by simp only [List.mem_singleton] at hu; subst hu; rfl)
      intro nv w5 r5 k5 n5
      obtain ⟨h1, h2, h3, h4, h5, h6⟩ := HH.out
      have hw5 : Keeps (fun b => (Value.slice oa ms.length oc).ownBlock = Option.some b) w2 w5 := (((Keeps.refl _ _).alloc _).alloc _).trans k5
      have m5 : ∀ b, nv.ownBlock = Option.some b → (Value.slice oa ms.length oc).ownBlock = Option.some b ∨ w2.heap.size ≤ b := fun b hb => (n5 b hb).imp id fun h => by first | omega | (simp at h; omega)
      have hrd5 : Rd w5 F' r (m.drop (4 + be4 m)) 0 := RD.out.keeps hw5 fun b hb e => (h5 b e).2 hb
      have hrel' : FeedAt w F r l0 nv w5 := by
        refine ⟨ms ++ [x], m.drop (4 + be4 m), F', hrd5, by rw [List.map_append]; exact r5, ?_, h4, fun b hb => ?_, ?_⟩
        · rw [h3, HP.out, HX.out, List.append_assoc]; rfl
        · rcases m5 b hb with h | h
          · exact h5 b h
          · have hwr := h6.size
            have hk2 := K2.out.size
            exact ⟨by omega, fun e => by have := h1.lt e; omega⟩
        · refine (h6.trans' K2.out fun i hi e => ?_).trans' hw5 fun i hi e => ?_
          · rcases h4 i e with h | h
            · exact h
            · omega
          · have := (h5 i e).1; omega
      have hmeas : rdLen r w5 < rdLen r wr := by rw [hrd5.len, HLr.out]; exact HLT.out
      have HR := Lib.hid hrel'
      have HMs := Lib.hid hmeas
      obtain ⟨na, nc, rfl⟩ := r5.val
      clear h1 h2 h3 h4 h5 h6 r5 k5 n5 hw5 m5 hrd5 hrel' hmeas
      go_wp2
      go_roundw
      case rel => exact HR.out
      case measure => exact HMs.out
theorem feed_ok {w : World} {F : Nat → Prop} {r : Nat} {l : Bs} (h : Rd w F r l 0) (g : Glob w) (hF : ∀ b, F b → 2 ≤ b) (c : Bs) (hl : l.length + c.length ≤ 140737488355328) (hm : (parse (l ++ c)).1.length ≤ 1099511627776) :
    Calls Tryd.prog 18 #[.pointer (some ⟨r, 0, none⟩), .string (mk c)] w (FeedOut w F r (l ++ c)) := feed_ok0 h g hF c _ rfl hl hm
end Go.Proofs.YtfijpnhnlpgkgaaDoor
