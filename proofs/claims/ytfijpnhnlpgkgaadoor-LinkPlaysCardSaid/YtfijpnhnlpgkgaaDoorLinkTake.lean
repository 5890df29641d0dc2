/-
  The link's methods walked: Reset over a link that the call made, Tick, Heard, Take.
  Conditions: as in the contracts of the readers; fewer than a million epochs and ticks.
-/
import Derived.Test.YtfijpnhnlpgkgaaDoorLinkWalk
import Derived.Deep.RegionHeld3
namespace Go.Proofs.YtfijpnhnlpgkgaaDoor
open Go.RowKit
section
variable {w W : World} {H : Nat → Prop} {p : Nat} {s : Ls}
def ResetOut (w : World) (H : Nat → Prop) (p : Nat) (s' : Ls) (W : World) (ev : Ending) (W2 : World) : Prop := ev = .returned (.tuple #[]) ∧ LL w H p s' W2 ∧ HK w H W W2
theorem ll_reset (h : LL w H p s W) (he : 0 ≤ s.ep ∧ s.ep ≤ 1000000) : Calls Tryd.prog 31 #[.pointer (some ⟨p, 0, none⟩)] W (ResetOut w H p (zeroS (s.ep + 1)) W) := by
  obtain ⟨F, ⟨r, v, G, h1, h0⟩, h2, h3, h4⟩ := h
  refine (reset_any h1.own he).mono ?_
  rintro ev W2 ⟨rfl, ⟨F', g1, g2⟩, g3⟩
  obtain ⟨a1, a2⟩ := LL.next (F := F) h2 h3 h4 g1 (fun b hb => (g2 b hb).imp (fun h => by subst h; exact (h0 b).2 (.inl rfl)) id) (g3.mono fun b _ hb => by subst hb; exact (h0 b).2 (.inl rfl))
  exact ⟨rfl, a1, a2⟩
theorem LkX.tick {r : Nat → Nat} {v : Nat → Value} {G : Nat → Nat → Prop} (h : LkX W p s r v G) (g : Int) : LkX (W.setCell ⟨p, 5, none⟩ (.int .i64 g)) p { s with gone := g } r v G := by
  have hk : Keeps (fun b => b = p) W (W.setCell ⟨p, 5, none⟩ (.int .i64 g)) := (Keeps.refl (fun b => b = p) W).setCell (p := ⟨p, 5, none⟩) (fun _ => rfl) _
  exact ⟨by rw [block_same h.own]; rfl, fun k hk2 => (h.row k hk2).keeps hk fun b hb e => h.pv hk2 (e ▸ hb), fun k hk2 => (h.rd k hk2).keeps hk fun b hb e => h.pg hk2 (e ▸ hb), h.gg, h.vg, h.vv, h.ok⟩
theorem LL.tick (h : LL w H p s W) (g : Int) : LL w H p { s with gone := g } (W.setCell ⟨p, 5, none⟩ (.int .i64 g)) ∧ HK w H W (W.setCell ⟨p, 5, none⟩ (.int .i64 g)) := by
  obtain ⟨F, ⟨r, v, G, h1, h0⟩, h2, h3, h4⟩ := h
  exact LL.next (F := F) (F' := F) h2 h3 h4 ⟨r, v, G, h1.tick g, h0⟩ (fun b hb => .inl hb) ((Keeps.refl F W).setCell (p := ⟨p, 5, none⟩) (fun _ => (h0 p).2 (.inl rfl)) _)
/-- what Tick answers at so many ticks -/
def tickA (g : Int) : Bool := decide (g < 20) && decide (8 ≤ g) && ((g - 8) % 4 == 0)
def TickOut (w : World) (H : Nat → Prop) (p : Nat) (s : Ls) (W : World) (ev : Ending) (W2 : World) : Prop :=
  ev = .returned (.tuple #[.bool (tickA (s.gone + 1)), .bool (decide (20 ≤ s.gone + 1))]) ∧ LL w H p { s with gone := s.gone + 1 } W2 ∧ HK w H W W2
set_option maxHeartbeats 1000000 in
theorem ll_tick (h : LL w H p s W) (hg : 0 ≤ s.gone ∧ s.gone ≤ 1000000) : Calls Tryd.prog 37 #[.pointer (some ⟨p, 0, none⟩)] W (TickOut w H p s W) := by
  have HT := Lib.hid (h.tick (s.gone + 1))
  have hc : W.cell? ⟨p, 5, none⟩ = some (.int .i64 s.gone) := by obtain ⟨F, ⟨r, v, G, h1, _⟩, _⟩ := h; exact h1.cellG
  have hf : W.frozen? ⟨p, 5, none⟩ = false := by obtain ⟨F, ⟨r, v, G, h1, _⟩, _⟩ := h; exact free_at h1.own 5
  have hp : p < W.heap.size := World.block_lt_of_cell? W _ hc
  have HO := Lib.hid (show ∀ a d, tickA (s.gone + 1) = a → decide (20 ≤ s.gone + 1) = d → TickOut w H p s W (.returned (.tuple #[.bool a, .bool d])) (W.setCell ⟨p, 5, none⟩ (.int .i64 (s.gone + 1))) from fun a d e1 e2 => ⟨by rw [e1, e2], HT.out⟩)
  unfold tickA at HO
  obtain ⟨g, hg'⟩ : ∃ g, s.gone = g := ⟨_, rfl⟩
  rw [hg'] at hc hg HO
  clear h HT hg'
  by_cases h20 : 20 ≤ g + 1
  · go_enter Tryd.func37, Tryd.ntmps37
    go_wp2
    go_ret2
    exact HO.out _ _ (by rw [decide_eq_false (by omega)]; rfl) (decide_eq_true (by omega))
  · have h20' : g + 1 < 20 := by omega
    by_cases h8 : 8 ≤ g + 1
    · obtain ⟨q, hq⟩ : ∃ q, (g + 1 - 8) % 4 = q := ⟨_, rfl⟩
      have hq2 : (g + 1 - 8).tmod 4 = q := by rw [Int.tmod_eq_emod_of_nonneg (by omega), hq]
      rw [hq] at HO
      by_cases hq0 : q = 0
      · subst hq0
        clear hq
        go_enter Tryd.func37, Tryd.ntmps37
        go_wp2
        go_ret2
        exact HO.out _ _ (by rw [decide_eq_true (show g + 1 < 20 by omega), decide_eq_true (show 8 ≤ g + 1 by omega)]; rfl) (decide_eq_false (by omega))
      · have hqb : (q == 0) = false := by simpa using hq0
        clear hq
        go_enter Tryd.func37, Tryd.ntmps37
        go_wp2
        go_ret2
        exact HO.out _ _ (by rw [decide_eq_true (show g + 1 < 20 by omega), decide_eq_true (show 8 ≤ g + 1 by omega), hqb]; rfl) (decide_eq_false (by omega))
    · go_enter Tryd.func37, Tryd.ntmps37
      go_wp2
      go_ret2
      exact HO.out _ _ (by rw [decide_eq_true (show g + 1 < 20 by omega), decide_eq_false (show ¬ 8 ≤ g + 1 by omega)]; rfl) (decide_eq_false (by omega))
def HeardOut (w : World) (H : Nat → Prop) (p : Nat) (s : Ls) (W : World) (ev : Ending) (W2 : World) : Prop := ev = .returned (.tuple #[]) ∧ LL w H p { s with gone := 0 } W2 ∧ HK w H W W2
theorem ll_heard (h : LL w H p s W) : Calls Tryd.prog 38 #[.pointer (some ⟨p, 0, none⟩)] W (HeardOut w H p s W) := by
  have HT := Lib.hid (h.tick 0)
  have hc : W.cell? ⟨p, 5, none⟩ = some (.int .i64 s.gone) := by obtain ⟨F, ⟨r, v, G, h1, _⟩, _⟩ := h; exact h1.cellG
  have hf : W.frozen? ⟨p, 5, none⟩ = false := by obtain ⟨F, ⟨r, v, G, h1, _⟩, _⟩ := h; exact free_at h1.own 5
  have hp : p < W.heap.size := World.block_lt_of_cell? W _ hc
  clear h
  go_enter Tryd.func38, Tryd.ntmps38
  go_wp2
  go_end0
  exact ⟨rfl, HT.out⟩
end
/-- what Take tells, and leaves -/
def takeN (s : Ls) (k : Nat) (most : Int) : Nat := min most.toNat (s.wait k).length
def takeP (s : Ls) (k : Nat) (most : Int) : List Bs × Bs × Int := parse (s.rest k ++ (s.wait k).take (takeN s k most))
def takeS (s : Ls) (k : Nat) (most : Int) : Ls :=
  if (takeP s k most).2.2 = 0 then { s with wait := upd s.wait k ((s.wait k).drop (takeN s k most)), rest := upd s.rest k (takeP s k most).2.1 } else zeroS (s.ep + 1)
def TakeOut (w : World) (H : Nat → Prop) (p : Nat) (s : Ls) (k : Nat) (most : Int) (W : World) (ev : Ending) (W2 : World) : Prop :=
  ∃ ov, ev = .returned (.tuple #[ov, .int .i64 (takeP s k most).2.2]) ∧ RowAt W2 9 ov ((takeP s k most).1.map sV) ∧ (∀ b, ov.ownBlock = some b → W.heap.size ≤ b) ∧ LL w (HV H ov) p (takeS s k most) W2 ∧ HK w H W W2
theorem cell_keeps'' {w w' : World} {F : Nat → Prop} {b o : Nat} {v : Value} (h : w.cell? ⟨b, o, none⟩ = some v) (k : Keeps F w w') (hF : ¬ F b) : w'.cell? ⟨b, o, none⟩ = some v := by
  rw [← h]
  unfold World.cell?
  rw [k.block b (World.block_lt_of_cell? w _ h) hF]
/-- the first of them, told as a string -/
theorem RowAt.convTake {w : World} {b off m c n : Nat} {l : Bs} (h : RowAt w 5 (.slice (some ⟨b, off, none⟩) m c) (l.map uV)) (hn : n ≤ l.length) :
    (convert 41 9 (.slice (some ⟨b, off, none⟩) n c)).run Tryd.prog w = .ok (.string (mk (l.take n))) w := by
  have hlen : (l.take n).length = n := by rw [List.length_take]; omega
  rcases h with ⟨h1, _⟩ | ⟨b', off', c', cur, h1, h2, _, _, _, h6⟩
  · cases h1
  · simp only [Value.slice.injEq, Option.some.injEq, Addr.mk.injEq, and_true] at h1
    obtain ⟨⟨rfl, rfl⟩, _, rfl⟩ := h1
    have := run_convert_bytes_arg (P := Tryd.prog) w 41 5 Tryd.underlying41 Tryd.underlying5 b off n c ((l.take n).map fun b => (b.toNat : Int)) (by rw [List.length_map, hlen]) (fun i hi => by
      rw [cell_at h2, row_elem h6 (i := i) (by rw [List.length_map]; omega), List.getElem_map, List.getD_eq_getElem?_getD, List.getElem?_map, List.getElem?_take, if_pos hi, List.getElem?_eq_getElem (by omega)]
      rfl) 9 Tryd.underlying9
    rw [strOfNums_mk] at this
    exact this
/-- behind the feeding, where nothing is wrong -/
theorem take_fin {w W w3 : World} {H F G' : Nat → Prop} {p k n : Nat} {s : Ls} {r : Nat → Nat} {v : Nat → Value} {G : Nat → Nat → Prop} {ov x : Value} {new : Bs} {ms : List Bs}
    (h1 : LkX W p s r v G) (h0 : ∀ b, F b ↔ Foot p v G b) (h2 : ∀ b, F b → w.heap.size ≤ b ∧ ¬ H b) (h3 : ∀ b, H b → b < W.heap.size) (h4 : Keeps (fun _ => False) w W) (hk : k < 2)
    (a1 : RowAt w3 9 ov (ms.map sV)) (a2 : Rd w3 G' (r k) new 0) (a3 : ∀ b, G' b → G k b ∨ W.heap.size ≤ b) (a4 : ∀ b, ov.ownBlock = some b → W.heap.size ≤ b ∧ ¬ G' b) (a5 : Keeps (G k) W w3) (hl : new.length < 65540)
    (hx : RowAt w3 5 x (((s.wait k).drop n).map uV)) (hxo : x.ownBlock = (v k).ownBlock) :
    RowAt (w3.setCell ⟨p, 2 * k + 1, none⟩ x) 9 ov (ms.map sV) ∧ LL w (HV H ov) p { s with wait := upd s.wait k ((s.wait k).drop n), rest := upd s.rest k new } (w3.setCell ⟨p, 2 * k + 1, none⟩ x) ∧ HK w H W (w3.setCell ⟨p, 2 * k + 1, none⟩ x) := by
  obtain ⟨g1, g2⟩ := h1.reader hk a5 a2 a3 hl
  obtain ⟨e1, e2, e3⟩ := g1.wait hk (Keeps.refl _ _) hx (fun b hb => .inl (hxo ▸ hb)) (by rw [List.length_drop]; have := (h1.ok k hk).1; omega)
  have hp := lt_at h1.own
  have hf : ∀ b, Foot p (upd v k x) (upd G k G') b → Foot p v G b ∨ G' b := fun b hb => by
    rcases hb with rfl | ⟨j, hj, hb | hb⟩
    · exact .inl (.inl rfl)
    · by_cases e : j = k
      · subst e; rw [upd_same, hxo] at hb; exact .inl (.inr ⟨j, hj, .inl hb⟩)
      · rw [upd_other _ _ e] at hb; exact .inl (.inr ⟨j, hj, .inl hb⟩)
    · by_cases e : j = k
      · subst e; rw [upd_same] at hb; exact .inr hb
      · rw [upd_other _ _ e] at hb; exact .inl (.inr ⟨j, hj, .inr hb⟩)
  have hkeep : Keeps F W (w3.setCell ⟨p, 2 * k + 1, none⟩ x) := (a5.mono fun b _ hb => (h0 b).2 (.inr ⟨k, hk, .inr hb⟩)).setCell (p := ⟨p, 2 * k + 1, none⟩) (fun _ => (h0 p).2 (.inl rfl)) x
  refine ⟨a1.of_same fun b hb => block_other _ _ _ _ fun e => by have := (a4 b hb).1; omega, ⟨Foot p (upd v k x) (upd G k G'), ⟨r, _, _, e1, fun _ => Iff.rfl⟩, fun b hb => ?_, fun b hb => ?_, h4.trans' hkeep fun b hb hf => by have := (h2 b hf).1; omega⟩, hkeep.mono fun b _ hf => h2 b hf⟩
  · rcases hf b hb with h | h
    · have hlt := h1.lt h
      refine ⟨(h2 b ((h0 b).2 h)).1, fun hh => ?_⟩
      rcases hh with hh | hh
      · exact (h2 b ((h0 b).2 h)).2 hh
      · have := (a4 b hh).1; omega
    · rcases a3 b h with h' | h'
      · have hfb := (h0 b).2 (.inr ⟨k, hk, .inr h'⟩)
        refine ⟨(h2 b hfb).1, fun hh => ?_⟩
        rcases hh with hh | hh
        · exact (h2 b hfb).2 hh
        · exact (a4 b hh).2 h
      · refine ⟨Nat.le_trans h4.size h', fun hh => ?_⟩
        rcases hh with hh | hh
        · have := h3 b hh; omega
        · exact (a4 b hh).2 h
  · rcases hb with hb | hb
    · exact Nat.lt_of_lt_of_le (h3 b hb) hkeep.size
    · have := a1.lt hb; simp; omega
/-- behind the feeding, where a length was wrong -/
theorem take_bad {w W w3 w5 : World} {H F F5 : Nat → Prop} {p k : Nat} {s s' : Ls} {r : Nat → Nat} {v : Nat → Value} {G : Nat → Nat → Prop} {ov x : Value} {ms : List Bs}
    (h1 : LkX W p s r v G) (h0 : ∀ b, F b ↔ Foot p v G b) (h2 : ∀ b, F b → w.heap.size ≤ b ∧ ¬ H b) (h3 : ∀ b, H b → b < W.heap.size) (h4 : Keeps (fun _ => False) w W) (hk : k < 2)
    (a1 : RowAt w3 9 ov (ms.map sV)) (a4 : ∀ b, ov.ownBlock = some b → W.heap.size ≤ b) (a5 : Keeps (G k) W w3)
    (b1 : Lk w5 F5 p s') (b2 : ∀ b, F5 b → b = p ∨ (w3.setCell ⟨p, 2 * k + 1, none⟩ x).heap.size ≤ b) (b3 : Keeps (fun b => b = p) (w3.setCell ⟨p, 2 * k + 1, none⟩ x) w5) :
    RowAt w5 9 ov (ms.map sV) ∧ LL w (HV H ov) p s' w5 ∧ HK w H W w5 := by
  have hp := lt_at h1.own
  have hsz : (w3.setCell ⟨p, 2 * k + 1, none⟩ x).heap.size = w3.heap.size := by simp
  have hfp : F p := (h0 p).2 (.inl rfl)
  have hkeep : Keeps F W w5 := ((a5.mono fun b _ hb => (h0 b).2 (.inr ⟨k, hk, .inr hb⟩)).setCell (p := ⟨p, 2 * k + 1, none⟩) (fun _ => hfp) x).trans (b3.mono fun b _ e => by subst e; exact hfp)
  have a5s := a5.size
  have a4s := h4.size
  refine ⟨(a1.of_same (w' := w3.setCell ⟨p, 2 * k + 1, none⟩ x) fun b hb => block_other _ _ _ _ fun e => by have := a4 b hb; omega).keeps b3 fun b hb e => by have := a4 b hb; omega, ⟨F5, b1, fun b hb => ?_, fun b hb => ?_, h4.trans' hkeep fun b hb hf => by have := (h2 b hf).1; omega⟩, hkeep.mono fun b _ hf => h2 b hf⟩
  · rcases b2 b hb with e | h
    · subst e
      refine ⟨(h2 b hfp).1, fun hh => ?_⟩
      rcases hh with hh | hh
      · exact (h2 b hfp).2 hh
      · have := a4 b hh; omega
    · rw [hsz] at h
      refine ⟨by omega, fun hh => ?_⟩
      rcases hh with hh | hh
      · have := h3 b hh; omega
      · have := a1.lt hh; omega
  · rcases hb with hb | hb
    · exact Nat.lt_of_lt_of_le (h3 b hb) hkeep.size
    · have := a1.lt hb; have := b3.size; omega
set_option maxRecDepth 100000 in
set_option maxHeartbeats 4000000 in
theorem ll_take {w W : World} {H : Nat → Prop} {p k : Nat} {s : Ls} (g : Glob w) (h : LL w H p s W) (hk : k < 2) (most : Int) (hm : 0 ≤ most) (he : 0 ≤ s.ep ∧ s.ep ≤ 1000000) :
    Calls Tryd.prog 28 #[.pointer (some ⟨p, 0, none⟩), .int .i64 k, .int .i64 most] W (TakeOut w H p s k most W) := by
  have CW := Lib.hid (way_any p k hk W)
  have hlk := h.len hk
  have HLL := Lib.hid h
  obtain ⟨F, ⟨r, v, G, h1, h0⟩, h2, h3, h4⟩ := h
  obtain ⟨n, hn⟩ : ∃ n, takeN s k most = n := ⟨_, rfl⟩
  have hn1 : n ≤ (s.wait k).length := by rw [← hn]; unfold takeN; omega
  have hmn : (if ((s.wait k).length : Int) < most then ((s.wait k).length : Int) else most) = (n : Int) := by rw [← hn]; unfold takeN; split <;> omega
  obtain ⟨P, hP⟩ : ∃ P, takeP s k most = P := ⟨_, rfl⟩
  have hP2 : parse (s.rest k ++ (s.wait k).take n) = P := by rw [← hP]; unfold takeP; rw [hn]
  have hfa := parse_facts _ (s.rest k ++ (s.wait k).take n) (Nat.le_refl _)
  have hgw : Glob W := g.fresh h4
  have hF2 : ∀ b, F b → 2 ≤ b := fun b hb => by have := (h2 b hb).1; have := g.size; omega
  have hlt : ((s.wait k).take n).length = n := by rw [List.length_take]; omega
  have CF := fun W' (hw : Keeps (fun _ => False) W W') => feed_ok ((h1.rd k hk).keeps hw fun _ _ => id) (hgw.fresh hw) (fun b hb => hF2 b ((h0 b).2 (.inr ⟨k, hk, .inr hb⟩))) ((s.wait k).take n) (by rw [hlt]; omega) (by rw [List.length_append, hlt] at hfa; omega)
  unfold FeedOut at CF
  rw [hP2] at CF hfa
  have hcr := h1.cellR hk
  have hcw := h1.cellW hk
  have hpl := lt_at h1.own
  have hfr := free_at h1.own (2 * k + 1)
  have hpg : ¬ G k p := h1.pg hk
  have HFin := Lib.hid (show ∀ w3 G' ov x, P.2.2 = 0 → RowAt w3 9 ov (P.1.map sV) → Rd w3 G' (r k) P.2.1 0 → (∀ b, G' b → G k b ∨ W.heap.size ≤ b) → (∀ b, ov.ownBlock = some b → W.heap.size ≤ b ∧ ¬ G' b) → Keeps (G k) W w3 → RowAt w3 5 x (((s.wait k).drop n).map uV) → x.ownBlock = (v k).ownBlock →
      TakeOut w H p s k most W (.returned (.tuple #[ov, .int .i64 0])) (w3.setCell ⟨p, 2 * k + 1, none⟩ x) from fun w3 G' ov x he0 a1 a2 a3 a4 a5 hx hxo => by
    obtain ⟨e1, e2, e3⟩ := take_fin h1 h0 h2 h3 h4 hk a1 a2 a3 a4 a5 hfa.2.2.2 hx hxo
    refine ⟨ov, by rw [hP, he0], by rw [hP]; exact e1, fun b hb => (a4 b hb).1, ?_, e3⟩
    unfold takeS
    rw [hP, if_pos he0, hn]
    exact e2)
  have HBad := Lib.hid (show ∀ w3 w5 F5 ov x, P.2.2 ≠ 0 → RowAt w3 9 ov (P.1.map sV) → (∀ b, ov.ownBlock = some b → W.heap.size ≤ b) → Keeps (G k) W w3 → Lk w5 F5 p (zeroS (s.ep + 1)) → (∀ b, F5 b → b = p ∨ (w3.setCell ⟨p, 2 * k + 1, none⟩ x).heap.size ≤ b) → Keeps (fun b => b = p) (w3.setCell ⟨p, 2 * k + 1, none⟩ x) w5 →
      TakeOut w H p s k most W (.returned (.tuple #[ov, .int .i64 P.2.2])) w5 from fun w3 w5 F5 ov x he0 a1 a4 a5 b1 b2 b3 => by
    obtain ⟨e1, e2, e3⟩ := take_bad h1 h0 h2 h3 h4 hk a1 a4 a5 b1 b2 b3
    refine ⟨ov, by rw [hP], by rw [hP]; exact e1, a4, ?_, e3⟩
    unfold takeS
    rw [hP, if_neg he0]
    exact e2)
  have HRow := Lib.hid fun w3 (a5 : Keeps (G k) W w3) => (h1.row k hk).keeps a5 fun b hb => h1.vg k k b hk hk hb
  have HOwn := Lib.hid h1.own
  have HFA := Lib.hid hfa
  obtain ⟨T, rest', e', hPe⟩ : ∃ T rest' e', P = (T, rest', e') := ⟨_, _, _, rfl⟩
  subst hPe
  simp only at HFin HBad HFA CF
  have HCF := Lib.hid CF
  have hvk := h1.row k hk
  have hep := he
  obtain ⟨L, hL⟩ : ∃ L, (s.wait k).length = L := ⟨_, rfl⟩
  have hlL := hlk.1
  have HConv := Lib.hid fun (b off c : Nat) (hv : v k = .slice (some ⟨b, off, none⟩) L c) (W' : World) (hr : RowAt W' 5 (v k) ((s.wait k).map uV)) => (show (convert 41 9 (.slice (some ⟨b, off, none⟩) n c)).run Tryd.prog W' = .ok (.string (mk ((s.wait k).take n))) W' from
    RowAt.convTake (m := L) (hv ▸ hr) hn1)
  rw [hL] at hmn hn1 hlL
  clear h1 h0 h2 h3 h4 hP hP2 hfa hn hgw hF2 hlt CF hlk HLL g he
  rcases hvk with ⟨hv, hx0⟩ | ⟨b, off, c, cur, hv, hb, hlc, hcm, hoc, htk⟩
  · have hw0 : s.wait k = [] := List.map_eq_nil_iff.1 hx0
    have hL0 : L = 0 := by rw [← hL, hw0]; rfl
    have hn0 : n = 0 := by omega
    have HV' := Lib.hid hv
    rw [hv] at hcw
    have hc1 : ∀ W' : World, (convert 41 9 (.slice none 0 0)).run Tryd.prog W' = .ok (.string (mk [])) W' := fun W' => run_convert_bytes_nil W' 41 5 Tryd.underlying41 Tryd.underlying5 0 0 9 Tryd.underlying9
    obtain ⟨t, ht⟩ : ∃ t, mk [] = t := ⟨_, rfl⟩
    have ht2 : mk ((s.wait k).take n) = t := by rw [hw0, List.take_nil]; exact ht
    rw [ht2] at HCF
    simp only [ht] at hc1
    have hconv := hc1 W.drew
    have HC0 := Lib.hid hc1
    have hmn0 : (if (0 : Int) < most then (0 : Int) else most) = 0 := by rw [hL0, hn0] at hmn; simpa using hmn
    unfold ptrV at hcr
    clear hv hx0 ht ht2 HConv hc1 hL hn1 hlL hL0 hmn
    go_enter Tryd.func28, Tryd.ntmps28
    go_wp2_with fail
    refine CW.out.mono ?_; rintro e w1 ⟨rfl, rfl⟩
    clear CW
    go_wp2_with fail
    go_region_held3 (fun w' => w'.cell? ⟨p, 2 * k, none⟩ = some (.pointer (some ⟨r k, 0, none⟩)) ∧ w'.cell? ⟨p, 2 * k + 1, none⟩ = some (.slice none 0 0) ∧ (convert 41 9 (.slice none 0 0)).run Tryd.prog w' = .ok (.string t) w')
      (first | exact ⟨q0, q1, q2⟩ | exact ⟨hcr, hcw, hconv⟩)
      (first
        | (go_at_call 18; refine (HCF.out _ ((Keeps.refl _ _).drew)).mono ?_; rintro ev w3 ⟨ov, G', rfl, a1, a2, a3, a4, a5⟩; have q0 : w3.cell? ⟨p, 2 * k, none⟩ = some (.pointer (some ⟨r k, 0, none⟩)) := cell_keeps'' hcr (((Keeps.refl _ _).drew).trans a5) hpg; have q1 : w3.cell? ⟨p, 2 * k + 1, none⟩ = some (.slice none 0 0) := cell_keeps'' hcw (((Keeps.refl _ _).drew).trans a5) hpg; have q2 := HC0.out w3))
    have k5 : Keeps (G k) W w3 := ((Keeps.refl _ _).drew).trans a5
    have own3 := (k5.block p hpl hpg).trans HOwn.out
    have f3 := free_at own3 (2 * k + 1)
    have l3 := lt_at own3
    have hx : RowAt w3 5 (Value.slice none 0 0) (((s.wait k).drop n).map uV) := by rw [hw0]; simpa using RowAt.nil w3 5
    have hxo : (Value.slice none 0 0).ownBlock = (v k).ownBlock := by rw [HV'.out]
    obtain ⟨x, hxx⟩ : ∃ x, Value.slice none 0 0 = x := ⟨_, rfl⟩
    have hrd4 : Rd (w3.setCell ⟨p, 2 * k + 1, none⟩ x) G' (r k) rest' e' := a2.keeps (G := fun b => b = p) ((Keeps.refl (fun b => b = p) w3).setCell (p := ⟨p, 2 * k + 1, none⟩) (fun _ => rfl) x) fun b hb e => by
      subst e
      rcases a3 b hb with h | h
      · exact hpg h
      · have hs : W.drew.heap.size = W.heap.size := rfl
        omega
    have own4 : (w3.setCell ⟨p, 2 * k + 1, none⟩ x).heap[p]? = some (.cells (lkCells r (upd v k x) s.ep s.gone) 90 (0, 0)) := by rw [block_same own3, cells_wait _ _ _ _ hk]
    rw [hxx] at hx hxo
    have CB := Lib.hid (bad_any hrd4)
    by_cases he0 : e' = 0
    · have HE := Lib.hid (HFin.out w3 G' ov x he0 a1 (he0 ▸ a2) a3 a4 k5 hx hxo)
      subst he0
      clear a1 a2 a3 a4 a5 hx hxo hrd4 own4 own3 k5 q2 HBad HFin HRow
      rw [← hxx] at CB HE
      clear hxx
      go_wp2_with fail
      refine CB.out.mono ?_; rintro ev w5 ⟨rfl, rfl⟩
      go_wp2_with fail
      go_ret2
      exact HE.out
    · have hb : (e' != 0) = true := by simpa using he0
      rw [hb] at CB
      have CR := Lib.hid (reset_any own4 hep)
      have HE := Lib.hid fun w5 F5 b1 b2 b3 => HBad.out w3 w5 F5 ov x he0 a1 (fun b hb => (a4 b hb).1) k5 b1 b2 b3
      clear a1 a2 a3 a4 a5 hx hxo hrd4 own4 own3 k5 q2 HBad HFin HRow hb he0
      rw [← hxx] at CB CR HE
      clear hxx
      go_wp2_with fail
      refine CB.out.mono ?_; rintro ev w5 ⟨rfl, rfl⟩
      go_wp2_with fail
      refine CR.out.mono ?_; rintro ev w6 ⟨rfl, ⟨F5, b1, b2⟩, b3⟩
      have HF5 := Lib.hid (HE.out w6 F5 b1 b2 b3)
      clear b1 b2 b3
      go_wp2_with fail
      go_ret2
      exact HF5.out
  · rw [List.length_map, hL] at hv hlc
    rw [hv] at hcw
    have hconv0 := fun W' => HConv.out b off c hv W'
    have HV' := Lib.hid hv
    have hbl := lt_at hb
    unfold maxLen at hcm
    have y1 : (n : Int) ≤ c := by omega
    have y2 : (n : Int) ≤ L := by omega
    obtain ⟨t, ht⟩ : ∃ t, mk ((s.wait k).take n) = t := ⟨_, rfl⟩
    rw [ht] at HCF
    simp only [ht] at hconv0
    have hconv := hconv0 W.drew (HRow.out _ ((Keeps.refl _ _).drew))
    have HC0 := Lib.hid hconv0
    unfold ptrV at hcr
    clear hv htk hoc hb ht HConv hconv0
    go_enter Tryd.func28, Tryd.ntmps28
    go_wp2_with fail
    refine CW.out.mono ?_; rintro e w1 ⟨rfl, rfl⟩
    clear CW
    go_wp2_with fail
    go_region_held3 (fun w' => w'.cell? ⟨p, 2 * k, none⟩ = some (.pointer (some ⟨r k, 0, none⟩)) ∧ w'.cell? ⟨p, 2 * k + 1, none⟩ = some (.slice (some ⟨b, off, none⟩) L c) ∧ (convert 41 9 (.slice (some ⟨b, off, none⟩) n c)).run Tryd.prog w' = .ok (.string t) w')
      (first | exact ⟨q0, q1, q2⟩ | exact ⟨hcr, hcw, hconv⟩)
      (first
        | (go_at_call 18; refine (HCF.out _ ((Keeps.refl _ _).drew)).mono ?_; rintro ev w3 ⟨ov, G', rfl, a1, a2, a3, a4, a5⟩; have q0 : w3.cell? ⟨p, 2 * k, none⟩ = some (.pointer (some ⟨r k, 0, none⟩)) := cell_keeps'' hcr (((Keeps.refl _ _).drew).trans a5) hpg; have q1 : w3.cell? ⟨p, 2 * k + 1, none⟩ = some (.slice (some ⟨b, off, none⟩) L c) := cell_keeps'' hcw (((Keeps.refl _ _).drew).trans a5) hpg; have q2 := HC0.out w3 (HRow.out w3 (((Keeps.refl _ _).drew).trans a5))))
    have k5 : Keeps (G k) W w3 := ((Keeps.refl _ _).drew).trans a5
    have own3 := (k5.block p hpl hpg).trans HOwn.out
    have f3 := free_at own3 (2 * k + 1)
    have l3 := lt_at own3
    by_cases hcn : c = n
    · have hx := (HV'.out ▸ HRow.out w3 k5).cut (m := L) hn1 (a := some ⟨b, off, none⟩) (.inl ⟨rfl, hcn.symm⟩)
      rw [← List.map_drop] at hx
      have hz : c - n = 0 := by omega
      rw [hz] at hx
      have hxo : (Value.slice (some ⟨b, off, none⟩) (L - n) 0).ownBlock = (v k).ownBlock := by rw [HV'.out]; rfl
      obtain ⟨x, hxx⟩ : ∃ x, Value.slice (some ⟨b, off, none⟩) (L - n) 0 = x := ⟨_, rfl⟩
      have hrd4 : Rd (w3.setCell ⟨p, 2 * k + 1, none⟩ x) G' (r k) rest' e' := a2.keeps (G := fun b => b = p) ((Keeps.refl (fun b => b = p) w3).setCell (p := ⟨p, 2 * k + 1, none⟩) (fun _ => rfl) x) fun b hb e => by
        subst e
        rcases a3 b hb with h | h
        · exact hpg h
        · have hs : W.drew.heap.size = W.heap.size := rfl
          omega
      have own4 : (w3.setCell ⟨p, 2 * k + 1, none⟩ x).heap[p]? = some (.cells (lkCells r (upd v k x) s.ep s.gone) 90 (0, 0)) := by rw [block_same own3, cells_wait _ _ _ _ hk]
      rw [hxx] at hx hxo
      have CB := Lib.hid (bad_any hrd4)
      by_cases he0 : e' = 0
      · have HE := Lib.hid (HFin.out w3 G' ov x he0 a1 (he0 ▸ a2) a3 a4 k5 hx hxo)
        subst he0
        clear a1 a2 a3 a4 a5 hx hxo hrd4 own4 own3 k5 q2 HBad HFin HRow
        rw [← hxx] at CB HE
        clear hxx
        go_wp2_with fail
        refine CB.out.mono ?_; rintro ev w5 ⟨rfl, rfl⟩
        go_wp2_with fail
        go_ret2
        exact HE.out
      · have hb : (e' != 0) = true := by simpa using he0
        rw [hb] at CB
        have CR := Lib.hid (reset_any own4 hep)
        have HE := Lib.hid fun w5 F5 b1 b2 b3 => HBad.out w3 w5 F5 ov x he0 a1 (fun b hb => (a4 b hb).1) k5 b1 b2 b3
        clear a1 a2 a3 a4 a5 hx hxo hrd4 own4 own3 k5 q2 HBad HFin HRow hb he0
        rw [← hxx] at CB CR HE
        clear hxx
        go_wp2_with fail
        refine CB.out.mono ?_; rintro ev w5 ⟨rfl, rfl⟩
        go_wp2_with fail
        refine CR.out.mono ?_; rintro ev w6 ⟨rfl, ⟨F5, b1, b2⟩, b3⟩
        have HF5 := Lib.hid (HE.out w6 F5 b1 b2 b3)
        clear b1 b2 b3
        go_wp2_with fail
        go_ret2
        exact HF5.out
    · have hx := (HV'.out ▸ HRow.out w3 k5).cut (m := L) hn1 (a := some ⟨b, off + n, none⟩) (.inr rfl)
      rw [← List.map_drop] at hx
      have hxo : (Value.slice (some ⟨b, off + n, none⟩) (L - n) (c - n)).ownBlock = (v k).ownBlock := by rw [HV'.out]; rfl
      obtain ⟨x, hxx⟩ : ∃ x, Value.slice (some ⟨b, off + n, none⟩) (L - n) (c - n) = x := ⟨_, rfl⟩
      have hrd4 : Rd (w3.setCell ⟨p, 2 * k + 1, none⟩ x) G' (r k) rest' e' := a2.keeps (G := fun b => b = p) ((Keeps.refl (fun b => b = p) w3).setCell (p := ⟨p, 2 * k + 1, none⟩) (fun _ => rfl) x) fun b hb e => by
        subst e
        rcases a3 b hb with h | h
        · exact hpg h
        · have hs : W.drew.heap.size = W.heap.size := rfl
          omega
      have own4 : (w3.setCell ⟨p, 2 * k + 1, none⟩ x).heap[p]? = some (.cells (lkCells r (upd v k x) s.ep s.gone) 90 (0, 0)) := by rw [block_same own3, cells_wait _ _ _ _ hk]
      rw [hxx] at hx hxo
      have CB := Lib.hid (bad_any hrd4)
      by_cases he0 : e' = 0
      · have HE := Lib.hid (HFin.out w3 G' ov x he0 a1 (he0 ▸ a2) a3 a4 k5 hx hxo)
        subst he0
        clear a1 a2 a3 a4 a5 hx hxo hrd4 own4 own3 k5 q2 HBad HFin HRow
        rw [← hxx] at CB HE
        clear hxx
        go_wp2_with fail
        refine CB.out.mono ?_; rintro ev w5 ⟨rfl, rfl⟩
        go_wp2_with fail
        go_ret2
        exact HE.out
      · have hb : (e' != 0) = true := by simpa using he0
        rw [hb] at CB
        have CR := Lib.hid (reset_any own4 hep)
        have HE := Lib.hid fun w5 F5 b1 b2 b3 => HBad.out w3 w5 F5 ov x he0 a1 (fun b hb => (a4 b hb).1) k5 b1 b2 b3
        clear a1 a2 a3 a4 a5 hx hxo hrd4 own4 own3 k5 q2 HBad HFin HRow hb he0
        rw [← hxx] at CB CR HE
        clear hxx
        go_wp2_with fail
        refine CB.out.mono ?_; rintro ev w5 ⟨rfl, rfl⟩
        go_wp2_with fail
        refine CR.out.mono ?_; rintro ev w6 ⟨rfl, ⟨F5, b1, b2⟩, b3⟩
        have HF5 := Lib.hid (HE.out w6 F5 b1 b2 b3)
        clear b1 b2 b3
        go_wp2_with fail
        go_ret2
        exact HF5.out
end Go.Proofs.YtfijpnhnlpgkgaaDoor
