/-
  FramePacks walked: it returns true at every text and number.
  Conditions: the variables errShort and errors.errorType hold what the text lays; the text takes at most 2^63 - 1 bytes.
-/
import Derived.Test.YtfijpnhnlpgkgaaDoorBytes
namespace Go.Proofs.YtfijpnhnlpgkgaaDoor
open Go.RowKit
def PackAt (w : World) (n g : Nat) (iv : Value) (wr : World) : Prop :=
  ∃ (i : Nat) (l : Bs), iv = .int .i64 i ∧ i ≤ n ∧ l.length = n ∧ RowAt wr 5 (.slice (some ⟨g, 0, none⟩) n n) (l.map uV) ∧ Keeps (fun _ => False) w wr
set_option maxRecDepth 100000 in
set_option maxHeartbeats 2000000 in
theorem packs_any (l : Bs) (a : Int) (w : World) (g : Glob w) (ha : 0 ≤ a ∧ a ≤ 4294967295) (hm : l.length ≤ maxLen) :
    Calls Tryd.prog 4 #[.string (mk l), .int .u32 a] w fun e w' => e = .returned (.bool true) ∧ Keeps (fun _ => False) w w' := by
  obtain ⟨i5, hi5, hx0, hx1, hx2⟩ := info_parts Tryd.info5
  have CE := Lib.hid (examples_any w g)
  have hsz : (mk l).size = l.length := mk_size l
  have hml : (mk l).size ≤ 9223372036854775807 := by unfold maxLen at hm; omega
  have CP := Lib.hid (fun W => pack_any l W hm)
  have CR := Lib.hid (fun W => rpack_any l W hm)
  obtain ⟨n, hn⟩ : ∃ n : Nat, a % 70000 = n := ⟨(a % 70000).toNat, by omega⟩
  have hnl : n ≤ 70000 := by omega
  have hn' : a.tmod 70000 = n := by rw [Int.tmod_eq_emod_of_nonneg ha.1, hn]
  by_cases h0 : l.length = 0
  · obtain ⟨s, hs⟩ : ∃ s, mk l = s := ⟨_, rfl⟩
    rw [hs] at hsz hml CP CR ⊢
    have hz : ¬ (0 : Int) < s.size := by omega
    clear hsz hm h0 g hs hn hn'
    go_enter Tryd.func4, Tryd.ntmps4
    go_wp2_with fail
    refine CE.out.mono ?_; rintro e w1 ⟨rfl, k1⟩
    have K1 := Lib.hid k1
    clear k1
    go_wp2_with fail
    refine (CP.out _).mono ?_; rintro e w2 ⟨rfl, k2⟩
    have K2 := Lib.hid (K1.out.trans k2)
    clear k2
    go_wp2_with fail
    refine (CR.out _).mono ?_; rintro e w3 ⟨rfl, k3⟩
    have K3 := Lib.hid (K2.out.trans k3)
    clear k3
    go_wp2_with fail
    go_ret
    exact ⟨rfl, K3.out⟩
  · have hidx : ∀ k : Nat, ∃ c : UInt8, ∀ W : World, (Instr.index 9 (.string (mk l)) (.int .i64 ((k : Int) % (mk l).size))).run Tryd.prog W = .ok (.int .u8 c.toNat) W := fun k => by
      have h1 := Int.emod_nonneg (k : Int) (show ((mk l).size : Int) ≠ 0 by omega)
      have h2 := Int.emod_lt_of_pos (k : Int) (show (0 : Int) < (mk l).size by omega)
      exact ⟨_, fun W => by rw [run_index_string W 9 _ .i64 _ Tryd.underlying9, dif_pos ⟨h1, h2⟩]⟩
    obtain ⟨s, hs⟩ : ∃ s, mk l = s := ⟨_, rfl⟩
    rw [hs] at hsz hml CP CR hidx ⊢
    have hz : (0 : Int) < s.size := by omega
    have HI := Lib.hid hidx
    clear hsz hm h0 g hs hn hidx
    go_enter Tryd.func4, Tryd.ntmps4
    go_wp2_with fail
    refine CE.out.mono ?_; rintro e w1 ⟨rfl, k1⟩
    have K1 := Lib.hid k1
    clear k1
    go_wp2_with (refine wpList_make_full _ rfl (.tmp 24) (.tmp 24) 41 rfl w1.heap.size 5 i5 (.int .u8 0) 1 Tryd.underlying41 hi5 hx0 hx1 .i64 .i64 n n n rfl rfl rfl rfl ?b2 ?b3 (Nat.le_refl _) ?_)
    case b2 => rw [hx2]; omega
    case b3 => simp [maxLen]; omega
    intro w2 r2 g2
    have hrow := row_of_owns r2
    rw [made_zero] at hrow
    have hat : PackAt w n w1.heap.size (.int .i64 0) w2 := ⟨0, List.replicate n 0, rfl, by omega, List.length_replicate, hrow, K1.out.grown g2 nofun⟩
    have HA := Lib.hid hat
    clear hat r2 g2 hrow
    go_wp2_with fail
    go_loopw [9] (fun iv wr => PackAt w n w1.heap.size iv wr) (fun iv _ => n - (intOf iv).toNat)
    case atStart => exact HA.out
    case round =>
      clear HA
      obtain ⟨i, m, rfl, hi, hml', hr, hk⟩ := hrel
      by_cases hlt : i < n
      · obtain ⟨c, hc⟩ := HI.out i
        have hlt' : (i : Int) < n := by omega
        have hcell : wr.cell? ⟨w1.heap.size, i, none⟩ = some (uV (m.getD i 0)) := by
          obtain ⟨b, o, cc, e1, _, _, hcs⟩ := hr.cells (by rw [List.length_map]; omega)
          simp only [Value.slice.injEq, Option.some.injEq, Addr.mk.injEq, and_true] at e1
          obtain ⟨⟨rfl, rfl⟩, -, -⟩ := e1
          have := hcs i (by rw [List.length_map]; omega)
          rw [Nat.zero_add, List.getElem_map] at this
          rw [this, List.getD_eq_getElem?_getD, List.getElem?_eq_getElem (by omega)]; rfl
        have hgl : w1.heap.size < wr.heap.size := World.block_lt_of_cell? wr _ hcell
        have hfr : wr.frozen? ⟨w1.heap.size, i, none⟩ = false := by
          rcases hr with ⟨h1, _⟩ | ⟨b', off', c', cur, h1, h2, _⟩
          · cases h1
          · simp only [Value.slice.injEq, Option.some.injEq, Addr.mk.injEq, and_true] at h1
            obtain ⟨⟨rfl, rfl⟩, -, -⟩ := h1
            exact free_at h2 _
        have hat : PackAt w n w1.heap.size (.int .i64 (i + 1 : Nat)) (wr.setCell ⟨w1.heap.size, i, none⟩ (.int .u8 c.toNat)) := by
          refine ⟨i + 1, m.set i c, rfl, by omega, by simpa using hml', ?_, hk.setCell (p := ⟨w1.heap.size, i, none⟩) (fun h => absurd h (by have := K1.out.size; show ¬ w1.heap.size < w.heap.size; omega)) _⟩
          have := hr.put (i := i) (u := uV c)
          rw [Nat.zero_add] at this
          rw [List.map_set]; exact this
        have HA := Lib.hid hat
        unfold uV at hcell
        have c0 : 0 ≤ (c.toNat : Int) := by omega
        have c1 : (c.toNat : Int) ≤ 255 := by have := c.toNat_lt; omega
        clear hat hr hk hml'
        go_wp2_with fail
        go_roundw
        case rel => exact HA.out
        case measure => simp [intOf]; omega
      · have hconv := hr.conv
        have hlm : m.length ≤ maxLen := by simp [maxLen]; omega
        have CP2 := Lib.hid (fun W => pack_any m W hlm)
        have CR2 := Lib.hid (fun W => rpack_any m W hlm)
        have HK := Lib.hid hk
        have hlt' : ¬ (i : Int) < n := by omega
        clear hr hk hml' hlm CP CR
        unfold sV at hconv
        go_wp2_with fail
        refine (CP2.out _).mono ?_; rintro e w3 ⟨rfl, k3⟩
        have K3 := Lib.hid (HK.out.trans k3)
        clear k3
        go_wp2_with fail
        refine (CR2.out _).mono ?_; rintro e w4 ⟨rfl, k4⟩
        have K4 := Lib.hid (K3.out.trans k4)
        clear k4
        go_wp2_with fail
        go_ret
        exact ⟨rfl, K4.out⟩
end Go.Proofs.YtfijpnhnlpgkgaaDoor
