/-
  The walks of (*line).Pop and (*line).Push over a heap of timers in memory, and append on a row that the call owns.
  Conditions: the line lies in memory as HeapAt says; Pop: it is not empty; Push: what comes lies apart, and there are at most 2000.
-/
import Derived.Test.YtfecgibdhglhiaaSwap
import Derived.OwnWalk
namespace Go.Proofs.Ytfecgibdhglhiaa
open Go.RowKit

/-- append on what the call owns: the law of the kit, and that the slice's row is the old one, or a new one. -/
theorem run_app {P : Program} (w : World) (t ty : TypeId)
    (e : TypeId) (i : TypeInfo) (z : Value) (bytes : Nat) (ht : P.underlying t = some (.slice e)) (hi : P.info? e = some i) (hz : i.zero = some z)
    (hsize : i.size = 1) (hby : i.bytes = bytes) (hzs : z.cells.size = 1)
    (v : Value) (n : Nat) (xs : List Value) (hown : w.ownsRow 0 e 1 v n xs)
    (ad : Addr) (u : Value) (c : Nat) (hnews : w.cell? (ad.add 0) = some u) (h1 : u.oneCell' = true)
    (h63 : n + 1 ≤ maxLen) (hbytes : (n + 1) * bytes ≤ 140737488355328) :
    ∃ v' w', (Builtin.append_ #[t, t] ty #[v, .slice (some ad) 1 c]).run P w = .ok v' w' ∧ w'.ownsRow 0 e 1 v' (n + 1) (xs ++ [u]) ∧ w.grownBy w' v.ownBlock ∧ (∀ k, v'.ownBlock = some k → v.ownBlock = some k ∨ w.heap.size ≤ k) := by
  have hnews' : ∀ j q, [u][j]? = some q → w.cell? (ad.add j) = some q := by
    intro j q hq
    cases j with
    | zero => simp at hq; subst hq; exact hnews
    | succ j => simp at hq
  have h1' : ∀ q ∈ [u], q.oneCell' = true := by intro q hq; simp at hq; subst hq; exact h1
  obtain ⟨v', w', hr, ho, hg, _⟩ := run_append_own w 0 t ty e i z 1 bytes ht hi hz hsize hby hzs Nat.one_pos v n xs hown ad 1 c [u] rfl hnews' h1' h63 hbytes (Nat.zero_le _)
  refine ⟨v', w', hr, ho, hg, ?_⟩
  rcases hown.2 with ⟨rfl, rfl⟩ | ⟨b, cap, cur, rfl, _, hb, hn, hm, hs, htk⟩
  · obtain ⟨v2, w2, hr2, ho2, _⟩ := run_append_own w w.heap.size t ty e i z 1 bytes ht hi hz hsize hby hzs Nat.one_pos (.slice none 0 0) 0 [] (World.ownsRow_nil _ _ _ _) ad 1 c [u] rfl hnews' h1' h63 hbytes (Nat.le_refl _)
    rw [hr] at hr2
    cases hr2
    exact fun k hk => .inr (ho2.lt k hk).1
  · by_cases hroom : n + 1 ≤ cap
    · rw [run_append_room w t ty e i ht hi b n cap cur hb ad 1 c [u] (by simp [hsize]) hnews' h1' hroom (by simp [hsize]; omega)] at hr
      cases hr
      exact fun k hk => .inl hk
    · rw [run_append_grow w t ty e i z ht hi hz ⟨b, 0, none⟩ n cap xs (by simpa [hsize] using hown.1) (fun j q hq => hown.cells rfl j q hq) ad 1 c [u] (by simp [hsize]) hnews' (by omega) (by simp only [maxLen] at h63; omega) (growslice_fits (by omega) (by rw [hby]; exact hbytes))] at hr
      cases hr
      exact fun k hk => .inr (by simp only [Value.ownBlock, Option.some.injEq] at hk; omega)
theorem wpList_app {P : Program} {w : World} {ops : Array Oper} {rest : List Oper} {o : Oper} {a : Act} {Q : Exit → Act → World → Prop} (hgd : o.guard = none) (s x : Operand) (t : TypeId)
    (ho : o.op = .call { callee := .builtin .append, args := #[s, x], argTypes := #[t, t] })
    (e : TypeId) (i : TypeInfo) (z : Value) (bytes : Nat) (ht : P.underlying t = some (.slice e)) (hi : P.info? e = some i) (hz : i.zero = some z)
    (hsize : i.size = 1) (hby : i.bytes = bytes) (hzs : z.cells.size = 1)
    (v : Value) (n : Nat) (xs : List Value) (hs : a.eval s = v) (hown : w.ownsRow 0 e 1 v n xs)
    (ad : Addr) (u : Value) (c : Nat) (hx : a.eval x = .slice (some ad) 1 c) (hnews : w.cell? (ad.add 0) = some u) (h1 : u.oneCell' = true)
    (h63 : n + 1 ≤ maxLen) (hbytes : (n + 1) * bytes ≤ 140737488355328)
    (h : ∀ v' w', w'.ownsRow 0 e 1 v' (n + 1) (xs ++ [u]) → w.grownBy w' v.ownBlock → (∀ k, v'.ownBlock = some k → v.ownBlock = some k ∨ w.heap.size ≤ k) → wpList P ops Q rest (a.put o.dst v') w') : wpList P ops Q (o :: rest) a w := by
  refine wpList_plain hgd fun _ hK => ?_
  obtain ⟨v', w', hr, h2, h3, h4⟩ := run_app w t o.type e i z bytes ht hi hz hsize hby hzs v n xs hown ad u c hnews h1 h63 hbytes
  unfold Oper.wp execOp
  simp only [ho, resolve, invoke, builtin, Sem.run_bind, Sem.run_pure, Result.andThen_ok, List.map_toArray, List.map_cons, List.map_nil, hs, hx, hr]
  exact hK _ _ (h v' w' h2 h3 h4)

section
variable {w : World} {p : Nat} {m l v : Value} {ts : List T}
theorem g_take {ts : List T} {n i : Nat} (h : i < n) : g (ts.take n) i = g ts i := by
  simp only [g, List.getD_eq_getElem?_getD, List.getElem?_take, if_pos h]
/-- h.Pop: the last one goes -/
theorem popAt2 (h : HeapAt w p m l v ts) (h0 : 0 < ts.length) :
    Calls Try.prog 52 #[.pointer (some ⟨p, 0, none⟩)] w fun e w' => e = .returned (.iface 57 (ptrT (g ts (ts.length - 1)))) ∧
      (∃ v', v'.ownBlock = v.ownBlock ∧ HeapAt w' p m l v' (ts.take (ts.length - 1))) ∧ Keeps (Foot p v ts) w w' ∧ w'.heap[(g ts (ts.length - 1)).blk]? = some (tb (g ts (ts.length - 1)) (ts.length - 1)) := by
  obtain ⟨a, c, cur, rfl, ha, hc, hm, hs, ht⟩ := h.some h0
  obtain ⟨n, hn⟩ : ∃ n, ts.length = n + 1 := ⟨ts.length - 1, by omega⟩
  have nP : a ≠ p := fun e => by have := h.own; rw [← e, ha] at this; simp at this
  have nT : ∀ i, i < ts.length → (g ts i).blk ≠ p := fun i hi e => by have := h.tim i hi; rw [e, h.own] at this; simp [tb] at this
  have hfin : HeapAt (w.setCell ⟨p, 0, none⟩ (.slice (some ⟨a, 0, none⟩) n c)) p m l (.slice (some ⟨a, 0, none⟩) n c) (ts.take n) := by
    have hl : (ts.take n).length = n := by simp; omega
    refine ⟨block_same h.own 0 _, ⟨by simp, .inr ⟨a, c, cur, by rw [hl], Nat.zero_le _, ?_, by omega, hm, by simpa using hs, ?_⟩⟩, fun i hi => ?_⟩
    · rw [block_other _ _ _ _ nP]; exact ha
    · rw [hl, Nat.mul_one, List.map_take, ← ht, List.take_take]
      congr 1; omega
    · rw [hl] at hi
      rw [g_take hi, block_other _ _ _ _ (nT i (by omega))]
      exact h.tim i (by omega)
  have hkeep : Keeps (Foot p (.slice (some ⟨a, 0, none⟩) (n + 1) c) ts) w (w.setCell ⟨p, 0, none⟩ (.slice (some ⟨a, 0, none⟩) n c)) :=
    (Keeps.refl _ _).setCell (fun _ => .inl rfl) _
  have hold : (w.setCell ⟨p, 0, none⟩ (.slice (some ⟨a, 0, none⟩) n c)).heap[(g ts (n + 1 - 1)).blk]? = some (tb (g ts (n + 1 - 1)) (n + 1 - 1)) := by
    rw [Nat.add_sub_cancel, block_other _ _ _ _ (nT n (by omega))]; exact h.tim n (by omega)
  have q1 := h.cell
  have q2 := h.free 0
  have q3 : w.cell? ⟨a, n, none⟩ = some (ptrT (g ts n)) := by rw [cell_at ha, ptr_at ht (by omega)]
  unfold ptrT at q3
  have hm' : c ≤ maxLen := hm
  unfold maxLen at hm
  have hn' : n + 1 ≤ c := by omega
  rw [hn] at q1
  have H := Lib.hid hn
  have H2 := Lib.hid hfin
  have H3 := Lib.hid hkeep
  have H4 := Lib.hid hold
  rw [hn]
  clear ht hs ha hc hn hfin hkeep hold nP nT
  go_enter Try.func52, Try.ntmps52
  go_wp2
  go_ret
  exact ⟨rfl, ⟨.slice (some ⟨a, 0, none⟩) n c, rfl, H2.out⟩, H3.out, H4.out⟩

/-- h.Pop: the last one goes -/
theorem popAt (h : HeapAt w p m l v ts) (h0 : 0 < ts.length) :
    Calls Try.prog 52 #[.pointer (some ⟨p, 0, none⟩)] w fun e w' => e = .returned (.iface 57 (ptrT (g ts (ts.length - 1)))) ∧
      (∃ v', v'.ownBlock = v.ownBlock ∧ HeapAt w' p m l v' (ts.take (ts.length - 1))) ∧ Keeps (Foot p v ts) w w' :=
  (popAt2 h h0).mono fun _ _ ⟨a, b, c, _⟩ => ⟨a, b, c⟩
theorem slice_of_owns {w : World} {b : Nat} {e : TypeId} {sz : Nat} {v : Value} {n : Nat} {xs : List Value} (h : w.ownsRow b e sz v n xs) (h0 : 0 < n) : ∃ a c, v = .slice (some ⟨a, 0, none⟩) n c := by
  rcases h.2 with ⟨_, h2⟩ | ⟨a, c, _, h2, _⟩
  · omega
  · exact ⟨a, c, h2⟩
theorem Try.info57 : (Try.prog.info? 57).map (fun i => (i.zero, i.size, i.bytes)) = some (some (.pointer none), 1, 8) := by kernel_rfl
theorem run_ta (a : Addr) (w : World) : Sem.run Try.prog (Instr.typeAssert (Value.iface 57 (Value.pointer (some a))) 20 57 false) w = .ok (.pointer (some a)) w := by kernel_rfl
/-- h.Push: one behind the others -/
theorem pushAt (h : HeapAt w p m l v ts) (x : T) (pl : Nat) (hx : w.heap[x.blk]? = some (tb x pl)) (hf : ¬ Foot p v ts x.blk) (hb : ts.length ≤ 2000) :
    Calls Try.prog 53 #[.pointer (some ⟨p, 0, none⟩), .iface 57 (.pointer (some ⟨x.blk, 0, none⟩))] w fun e w' => e = .returned (.tuple #[]) ∧
      (∃ v', (∀ k, v'.ownBlock = some k → v.ownBlock = some k ∨ w.heap.size ≤ k) ∧ HeapAt w' p m l v' (ts ++ [x])) ∧ Keeps (fun b => Foot p v ts b ∨ b = x.blk) w w' := by
  have q1 := h.cell
  have q2 := h.free 0
  have q3 : w.cell? ⟨x.blk, 3, none⟩ = some (.int .i64 pl) := by rw [cell_at hx]; rfl
  have q4 : w.frozen? ⟨x.blk, 3, none⟩ = false := free_at hx 3
  have nxp : x.blk ≠ p := fun e => hf (.inl e)
  obtain ⟨i0, hi, hz0, hz1, hz2⟩ := info_parts Try.info57
  obtain ⟨n, hn⟩ : ∃ n, ts.length = n := ⟨_, rfl⟩
  have hsh : ∃ a c, v = .slice a n c := by
    rcases h.shape with ⟨h1, h2⟩ | ⟨a, c, cur, h1, _⟩
    · exact ⟨none, 0, by rw [h1, ← hn, h2]; rfl⟩
    · exact ⟨_, _, by rw [h1, hn]⟩
  obtain ⟨a, c, hv⟩ := hsh
  have hk1 : Keeps (fun b => b = x.blk) w ((w.setCell ⟨x.blk, 3, none⟩ (.int .i64 n)).alloc (.cells #[.pointer (some ⟨x.blk, 0, none⟩)] 57)) := by
    refine ((Keeps.refl _ _).setCell ?_ _).alloc _
    exact fun _ => rfl
  have hat : HeapAt ((w.setCell ⟨x.blk, 3, none⟩ (.int .i64 n)).alloc (.cells #[.pointer (some ⟨x.blk, 0, none⟩)] 57)) p m l v ts := h.keeps hk1 fun b hb e => hf (e ▸ hb)
  have hxb : ((w.setCell ⟨x.blk, 3, none⟩ (.int .i64 n)).alloc (.cells #[.pointer (some ⟨x.blk, 0, none⟩)] 57)).heap[x.blk]? = some (tb x n) := by
    rw [Below.heap_alloc _ _ _ (by simpa using lt_at hx), block_same hx 3 _]; rfl
  have hrow := hat.row
  have hsz := lt_at hx
  have hfin : ∀ v' w', w'.ownsRow 0 57 1 v' (n + 1) (ts.map ptrT ++ [.pointer (some ⟨x.blk, 0, none⟩)]) → ((w.setCell ⟨x.blk, 3, none⟩ (.int .i64 n)).alloc (.cells #[.pointer (some ⟨x.blk, 0, none⟩)] 57)).grownBy w' v.ownBlock →
      (∀ k, v'.ownBlock = some k → v.ownBlock = some k ∨ w.heap.size + 1 ≤ k) →
      w'.heap[p]? = some (.cells #[v, m, l] 56 (0, 0)) ∧ ((∃ v'', (∀ k, v''.ownBlock = some k → v.ownBlock = some k ∨ w.heap.size ≤ k) ∧ HeapAt (w'.setCell ⟨p, 0, none⟩ v') p m l v'' (ts ++ [x])) ∧ Keeps (fun b => Foot p v ts b ∨ b = x.blk) w (w'.setCell ⟨p, 0, none⟩ v')) := by
    intro v' w' ho hg hk
    have hvb : ∀ k, v.ownBlock = some k → ∃ cur, ((w.setCell ⟨x.blk, 3, none⟩ (.int .i64 n)).alloc (.cells #[.pointer (some ⟨x.blk, 0, none⟩)] 57)).heap[k]? = some (.cells cur 57 (0, 0)) := by
      intro k hk
      rcases hat.shape with ⟨h1, _⟩ | ⟨a, c, cur, h1, h2, _⟩
      · rw [h1] at hk; cases hk
      · rw [h1] at hk; simp only [Value.ownBlock, Option.some.injEq] at hk; subst hk; exact ⟨cur, h2⟩
    have hp' : w'.heap[p]? = some (.cells #[v, m, l] 56 (0, 0)) := by
      rw [hg.block p (lt_at hat.own) ?_]; · exact hat.own
      · intro e
        obtain ⟨cur, hc⟩ := hvb p e.symm
        rw [hat.own] at hc; simp at hc
    have ht' : ∀ i, i < ts.length → w'.heap[(g ts i).blk]? = some (tb (g ts i) i) := by
      intro i hi
      rw [hg.block _ (lt_at (hat.tim i hi)) ?_]; · exact hat.tim i hi
      · intro e
        obtain ⟨cur, hc⟩ := hvb _ e.symm
        rw [hat.tim i hi] at hc; simp [tb] at hc
    have hx' : w'.heap[x.blk]? = some (tb x n) := by
      rw [hg.block _ (lt_at hxb) ?_]; · exact hxb
      · intro e
        obtain ⟨cur, hc⟩ := hvb _ e.symm
        rw [hxb] at hc; simp [tb] at hc
    refine ⟨hp', ⟨v', fun k h1 => ?_, ⟨block_same hp' 0 _, ?_, fun i hi => ?_⟩⟩, ?_⟩
    · rcases hk k h1 with h2 | h2
      · exact .inl h2
      · exact .inr (by omega)
    · have : v'.ownBlock ≠ some p := by
        intro e
        obtain ⟨_, h2⟩ := ho
        rcases h2 with ⟨rfl, _⟩ | ⟨gb, cap, cur, rfl, _, hh, _⟩
        · cases e
        · simp only [Value.ownBlock, Option.some.injEq] at e; subst e; rw [hp'] at hh; simp at hh
      have := ownsRow_setCell_other ho (a := ⟨p, 0, none⟩) this v'
      simpa [hn, ptrT] using this
    · by_cases e : i < ts.length
      · have e1 : g (ts ++ [x]) i = g ts i := by simp [g, List.getElem?_append, e]
        rw [e1, block_other _ _ _ _ (fun e2 => by have := ht' i e; rw [e2, hp'] at this; simp [tb] at this)]
        exact ht' i e
      · have e0 : i = ts.length := by simp at hi; omega
        have e1 : g (ts ++ [x]) i = x := by subst e0; simp [g]
        rw [e1, block_other _ _ _ _ nxp, hx', e0, hn]
    · refine ((hk1.mono (fun k _ e => .inr e)).grown hg (fun k e _ => .inl (.inr (.inl e)))).setCell (fun _ => .inl (.inl rfl)) _
  have HR := Lib.hid hrow
  have HF := Lib.hid hfin
  have Hn := Lib.hid hn
  have Hv := Lib.hid hv
  rw [hv] at q1
  clear h hx hf hn hv hk1 hat hxb hrow hfin
  have hta := run_ta ⟨x.blk, 0, none⟩
  go_enter Try.func53, Try.ntmps53
  go_wp2_with (at_builtin; refine wpList_app rfl _ _ 54 rfl 57 i0 (.pointer none) 8 Try.underlying54 hi hz0 hz1 hz2 rfl v n _ (by exact Hv.out.symm) (by have := HR.out; rw [Hn.out] at this; exact this) ⟨w.heap.size, 0, none⟩ (.pointer (some ⟨x.blk, 0, none⟩)) 1 rfl ?c1 rfl ?c3 ?c4 ?_)
  case c1 =>
    show (World.alloc _ _).cell? ⟨w.heap.size, 0, none⟩ = _
    rw [World.cell?_alloc_at _ _ _ _ (by simp)]; rfl
  case c3 => have := Hn.out; unfold maxLen; omega
  case c4 => have := Hn.out; omega
  intro v' w1 ho hg hk
  obtain ⟨hp', hpost⟩ := HF.out v' w1 ho hg hk
  have r1 : w1.cell? ⟨p, 0, none⟩ = some v := by rw [cell_at hp']; rfl
  obtain ⟨a', c', rfl⟩ := slice_of_owns ho (Nat.succ_pos _)
  have r2 : w1.frozen? ⟨p, 0, none⟩ = false := free_at hp' 0
  have HP := Lib.hid hpost
  clear ho hg hk hp' hpost q1 q2 q3 q4
  go_wp2
  go_end0
  exact ⟨rfl, HP.out⟩
end
end Go.Proofs.Ytfecgibdhglhiaa
