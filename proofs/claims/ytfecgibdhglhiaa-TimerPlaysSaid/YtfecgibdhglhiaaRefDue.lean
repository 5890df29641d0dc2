/-
  The document's timers: 'Due'.
  Conditions: at most 2000 timers, none twice.
-/
import Derived.Test.YtfecgibdhglhiaaRefSet
import Derived.Test.YtfecgibdhglhiaaRow
namespace Go.Proofs.Ytfecgibdhglhiaa
open Go.RowKit
def refLen (r : Nat) (w : World) : Nat := match w.cell? ⟨r, 0, none⟩ with | some (.slice _ n _) => n | _ => 0
theorem RefAt.refLen {w : World} {r : Nat} {sv : Value} {L : List IA} (h : RefAt w r sv L) : refLen r w = L.length := by
  obtain ⟨va, vc, rfl, _⟩ := h.row.val
  unfold Go.Proofs.Ytfecgibdhglhiaa.refLen
  rw [cell_at h.own]; rfl
/-- while 'Due' goes round: ks is told, M is left -/
def DueAt (w : World) (r : Nat) (sv : Value) (now : Int) (L : List IA) (ov : Value) (wr : World) : Prop :=
  ∃ (M : List IA) (ks : List ByteArray) (s1 : Value), RefAt wr r s1 M ∧ Uniq M ∧ ks.length + M.length = L.length ∧ RowAt wr 9 ov (ks.map strV) ∧ dueL now L = (ks ++ (dueL now M).1, (dueL now M).2) ∧
    (∀ b, s1.ownBlock = some b → sv.ownBlock = some b ∨ w.heap.size ≤ b) ∧ (∀ b, ov.ownBlock = some b → w.heap.size ≤ b ∧ s1.ownBlock ≠ some b) ∧ Keeps (fun b => b = r ∨ sv.ownBlock = some b) w wr
set_option maxHeartbeats 1000000 in
theorem rDue {w : World} {r : Nat} {sv : Value} {L : List IA} (h : RefAt w r sv L) (hu : Uniq L) (hl : L.length ≤ 2000) (now : Int) :
    Calls Try.prog 16 #[.pointer (some ⟨r, 0, none⟩), .int .u64 now] w fun e w' => ∃ ov s1, e = .returned ov ∧ RowAt w' 9 ov ((dueL now L).1.map strV) ∧ RefAt w' r s1 (dueL now L).2 ∧
      (∀ b, s1.ownBlock = some b → sv.ownBlock = some b ∨ w.heap.size ≤ b) ∧ (∀ b, ov.ownBlock = some b → w.heap.size ≤ b ∧ s1.ownBlock ≠ some b) ∧ Keeps (fun b => b = r ∨ sv.ownBlock = some b) w w' := by
  obtain ⟨i9, hi9, hy0, hy1, hy2⟩ := info_parts Try.info9
  have hrl := h.lt
  have h0 : DueAt w r sv now L (.slice none 0 0) w := ⟨L, [], sv, h, hu, by simp, RowAt.nil _ _, by simp, fun b hb => .inl hb, nofun, Keeps.refl _ _⟩
  have H0 := Lib.hid h0
  clear h hu h0
  go_enter Try.func16, Try.ntmps16
  go_wp2_with fail
  go_loopw [5] (fun ov wr => DueAt w r sv now L ov wr) (fun _ wr => refLen r wr)
  case atStart => exact H0.out
  case round =>
    clear H0
    obtain ⟨M, ks, s1, h1, h2, h3, h4, h5, h6, h7, h8⟩ := hrel
    obtain ⟨va, vc, rfl, _⟩ := h1.row.val
    have hc : wr.cell? ⟨r, 0, none⟩ = some (.slice va M.length vc) := by rw [cell_at h1.own]; rfl
    have hrl1 := h1.lt
    have hml : M.length ≤ 2000 := by omega
    have hkl : ks.length ≤ 2000 := by omega
    have CN := Lib.hid (rNext h1 hml)
    have HL := Lib.hid h1.refLen
    cases hmin : minL M with
    | none =>
      obtain rfl : M = [] := minL_none hmin
      rw [dueL_none hmin] at h5
      have HE := Lib.hid (show ∃ ov s1, Ending.returned u5 = .returned ov ∧ RowAt wr 9 ov ((dueL now L).1.map strV) ∧ RefAt wr r s1 (dueL now L).2 ∧ (∀ b, s1.ownBlock = some b → sv.ownBlock = some b ∨ w.heap.size ≤ b) ∧ (∀ b, ov.ownBlock = some b → w.heap.size ≤ b ∧ s1.ownBlock ≠ some b) ∧ Keeps (fun b => b = r ∨ sv.ownBlock = some b) w wr from
        ⟨u5, _, rfl, by rw [h5]; simpa using h4, by rw [h5]; exact h1, h6, h7, h8⟩)
      clear h1 h2 h3 h4 h5 h6 h7 h8 hmin CN
      go_wp2
      go_ret
      exact HE.out
    | some x =>
      have hpos : 0 < M.length := by cases M with | nil => simp [minL] at hmin | cons _ _ => simp
      have hpos' : (0 : Int) < M.length := by omega
      rw [hmin] at CN
      by_cases hx : x.2 ≤ now
      · have hx' : ¬ now < x.2 := by omega
        rw [dueL_some hmin hx] at h5
        have hst := fun W (hW : Keeps (fun _ => False) wr W) => rStop' (h1.keeps hW id fun _ _ => id) h2 hml x.1
        have CS := Lib.hid hst
        have H := Lib.hid (⟨h1, h2, h3, h4, h5, h6, h7, h8⟩ : RefAt wr r (.slice va M.length vc) M ∧ Uniq M ∧ ks.length + M.length = L.length ∧ RowAt wr 9 u5 (ks.map strV) ∧ dueL now L = (ks ++ (x.1 :: (dueL now (delL M x.1)).1), (dueL now (delL M x.1)).2) ∧ (∀ b, (Value.slice va M.length vc).ownBlock = some b → sv.ownBlock = some b ∨ w.heap.size ≤ b) ∧ (∀ b, u5.ownBlock = some b → w.heap.size ≤ b ∧ (Value.slice va M.length vc).ownBlock ≠ some b) ∧ Keeps (fun b => b = r ∨ sv.ownBlock = some b) w wr)
        have HM := Lib.hid hmin
        clear h1 h2 h3 h4 h5 h6 h7 h8 hst hmin
        go_wp2_with fail
        refine CN.out.mono ?_; rintro e w1 ⟨rfl, k1⟩
        have HK := Lib.hid k1
        clear k1 CN
        unfold nextV
        go_wp2_with (at_builtin; refine wpList_app_row rfl _ _ 30 30 rfl 9 i9 (.string ByteArray.empty) 16 Try.underlying30 hi9 hy0 hy1 hy2 rfl _ (ks.map strV) rfl (H.out.2.2.2.1.keeps (F := fun _ => False) (HK.out.alloc _) fun _ _ => id) _ 1 [strV x.1] rfl ?cB (by simp [maxLen]; omega) (by simp; omega) ?_)
        case cB => exact RowAt.src (e := 9) (xs := [strV x.1]) Try.underlying30 (.inr ⟨_, 0, 1, #[strV x.1], rfl, heap_alloc_new _ _, by simp, by simp [maxLen], by simp, by simp⟩) (fun u hu => by simp only [List.mem_singleton] at hu; subst hu; rfl)
        intro nv w5 r5 k5 n5
        obtain ⟨h1, h2, h3, h4, h5, h6, h7, h8⟩ := H.out
        have hw5 : Keeps (fun b => u5.ownBlock = Option.some b) wr w5 := (HK.out.alloc _ |>.mono fun _ _ h => h.elim).trans k5
        have m5 : ∀ b, nv.ownBlock = Option.some b → u5.ownBlock = Option.some b ∨ wr.heap.size ≤ b := fun b hb => (n5 b hb).imp id fun h => by have := HK.out.size; first | omega | (simp at h; omega)
        have hr5 : RefAt w5 r (.slice va M.length vc) M := h1.keeps hw5 (fun e => by have := (h7 r e).1; omega) fun b hb e => (h7 b e).2 hb
        have hc5 := rStop' hr5 h2 hml x.1
        have C5 := Lib.hid hc5
        have H5 := Lib.hid hr5
        have R5 := Lib.hid r5
        have W5 := Lib.hid hw5
        have M5 := Lib.hid m5
        clear h1 h2 h3 h4 h5 h6 h7 h8 hw5 m5 hr5 hc5 r5 k5 n5 CS hc
        go_wp2_with fail
        refine C5.out.mono ?_; rintro e w6 ⟨rfl, ho⟩
        obtain ⟨h1, h2, h3, h4, h5, h6, h7, h8⟩ := H.out
        obtain ⟨⟨s2, g1, g2⟩, g3⟩ := ho
        have hmem := minL_mem HM.out
        have hhas : hasL M x.1 = true := List.any_eq_true.2 ⟨x, hmem, by simp⟩
        have hlen := delL_uniq h2 hhas
        have hnr : ∀ b, nv.ownBlock = Option.some b → w.heap.size ≤ b ∧ (Value.slice va M.length vc).ownBlock ≠ Option.some b := fun b hb => by
          rcases M5.out b hb with h | h
          · exact h7 b h
          · exact ⟨Nat.le_trans h8.size h, fun e => by have := h1.row.lt e; omega⟩
        have hrel' : DueAt w r sv now L nv w6 := by
          refine ⟨delL M x.1, ks ++ [x.1], s2, g1, uniq_delL h2 _, by rw [List.length_append, List.length_singleton]; omega, ?_, by rw [h5, List.append_assoc]; rfl, fun b hb => ?_, fun b hb => ⟨(hnr b hb).1, fun e => ?_⟩, ?_⟩
          · have := R5.out.keeps g3 fun b hb e => by
              rcases e with e | e
              · have := (hnr b hb).1; omega
              · exact (hnr b hb).2 e
            rw [List.map_append]; exact this
          · rcases g2 b hb with h | h
            · exact h6 b h
            · exact .inr (Nat.le_trans h8.size (Nat.le_trans W5.out.size h))
          · rcases g2 b e with h | h
            · exact (hnr b hb).2 h
            · have := R5.out.lt hb; omega
          · refine (h8.trans' W5.out fun i hi e => ?_).trans' g3 fun i hi e => ?_
            · have := (h7 i e).1; omega
            · rcases e with e | e
              · exact .inl e
              · rcases h6 i e with h | h
                · exact .inr h
                · omega
        have hmeas : refLen r w6 < refLen r wr := by rw [g1.refLen, h1.refLen]; omega
        have HR := Lib.hid hrel'
        have HMs := Lib.hid hmeas
        clear h1 h2 h3 h4 h5 h6 h7 h8 g1 g2 g3 hmem hhas hlen hnr hrel' hmeas
        go_wp2
        go_roundw
        case rel => exact HR.out
        case measure => exact HMs.out
      · have hx' : now < x.2 := by omega
        rw [dueL_late hmin hx] at h5
        have HE := Lib.hid (show ∀ W, Keeps (fun _ => False) wr W → ∃ ov s1, Ending.returned u5 = .returned ov ∧ RowAt W 9 ov ((dueL now L).1.map strV) ∧ RefAt W r s1 (dueL now L).2 ∧ (∀ b, s1.ownBlock = some b → sv.ownBlock = some b ∨ w.heap.size ≤ b) ∧ (∀ b, ov.ownBlock = some b → w.heap.size ≤ b ∧ s1.ownBlock ≠ some b) ∧ Keeps (fun b => b = r ∨ sv.ownBlock = some b) w W from
          fun W hW => ⟨u5, _, rfl, by rw [h5]; simpa using h4.keeps hW fun _ _ => id, by rw [h5]; exact h1.keeps hW id fun _ _ => id, h6, h7, h8.trans (hW.mono fun _ _ h => h.elim)⟩)
        clear h1 h2 h3 h4 h5 h6 h7 h8 hmin
        go_wp2_with fail
        refine CN.out.mono ?_; rintro e w1 ⟨rfl, k1⟩
        have HK := Lib.hid k1
        clear k1 CN
        unfold nextV
        go_wp2
        go_ret
        exact HE.out _ HK.out
end Go.Proofs.Ytfecgibdhglhiaa
