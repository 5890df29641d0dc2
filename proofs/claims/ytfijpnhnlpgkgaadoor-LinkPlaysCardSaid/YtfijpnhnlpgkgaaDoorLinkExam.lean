/-
  A new link apart from what is held; what Send, Inject and Take do to a link in the plain cases; the examples of chapter 8 hold.
  Conditions: the variables errShort and errors.errorType hold what the text lays.
-/
import Derived.Test.YtfijpnhnlpgkgaaDoorLinkTake
namespace Go.Proofs.YtfijpnhnlpgkgaaDoor
open Go.RowKit
theorem ll_new {w W : World} {H : Nat → Prop} (hk : Keeps (fun _ => False) w W) (hH : ∀ b, H b → b < W.heap.size) :
    Calls Tryd.prog 25 #[] W fun e W2 => ∃ p, e = .returned (.pointer (some ⟨p, 0, none⟩)) ∧ LL w H p (zeroS 1) W2 ∧ Keeps (fun _ => False) W W2 ∧ W.heap.size ≤ p := by
  refine (lnew_any W).mono ?_
  rintro e W2 ⟨p, rfl, ⟨F, h1, h2⟩, h3, h4⟩
  exact ⟨p, rfl, ⟨F, h1, fun b hb => ⟨Nat.le_trans hk.size (h2 b hb), fun hh => by have := hH b hh; have := h2 b hb; omega⟩, fun b hb => Nat.lt_of_lt_of_le (hH b hb) h4.size, hk.trans h4⟩, h4, h3⟩
theorem inj_fits {s : Ls} {k : Nat} {c : Bs} (h : (s.wait k).length + c.length ≤ 262144) : injE s k c = 0 ∧ injS s k c = { s with wait := upd s.wait k (s.wait k ++ c) } := by
  unfold injE injS
  rw [if_neg (by omega), if_neg (by omega)]
  exact ⟨rfl, rfl⟩
theorem send_fits {s : Ls} {k : Nat} {m : Bs} (h0 : 1 ≤ m.length) (h1 : m.length ≤ 65536) (h : (s.wait k).length + 4 + m.length ≤ 262144) : sendE s k m = 0 ∧ sendS s k m = { s with wait := upd s.wait k (s.wait k ++ frm m) } := by
  unfold sendE sendS
  rw [if_pos ⟨h0, h1⟩, if_pos ⟨h0, h1⟩]
  exact inj_fits (by rw [frm_length]; omega)
/-- all that waits is taken, and it is whole messages -/
theorem take_all {s : Ls} {k : Nat} {most : Int} {ms : List Bs} (h : ((s.wait k).length : Int) ≤ most) (hp : parse (s.rest k ++ s.wait k) = (ms, [], 0)) :
    takeP s k most = (ms, [], 0) ∧ takeS s k most = { s with wait := upd s.wait k [], rest := upd s.rest k [] } := by
  have hn : takeN s k most = (s.wait k).length := by unfold takeN; omega
  have h1 : takeP s k most = (ms, [], 0) := by unfold takeP; rw [hn, List.take_length]; exact hp
  refine ⟨h1, ?_⟩
  unfold takeS
  rw [h1, hn, List.drop_length, if_pos rfl]
theorem parse_one {m : Bs} (h0 : 1 ≤ m.length) (h1 : m.length ≤ 65536) : parse (frm m) = ([m], [], 0) := by
  have := parse_frm m [] h0 h1
  rw [List.append_nil, parse_short (l := []) (by decide)] at this
  exact this
set_option maxRecDepth 100000 in
set_option maxHeartbeats 1000000 in
theorem lexam_any (w : World) (g : Glob w) : Calls Tryd.prog 24 #[] w fun e w' => e = .returned (.bool true) ∧ Keeps (fun _ => False) w w' := by
  have HG := Lib.hid g
  have CN := Lib.hid (ll_new (H := fun _ => False) (Keeps.refl (fun _ => False) w) fun _ => False.elim)
  have hpa := parse_one (m := [97]) (by decide) (by decide)
  have hs := send_fits (s := zeroS 1) (k := 0) (m := [97]) (by decide) (by decide) (by decide)
  have ht := take_all (s := { zeroS 1 with wait := upd (zeroS 1).wait 0 ((zeroS 1).wait 0 ++ frm [97]) }) (k := 0) (most := 99) (ms := [[97]]) (by decide) hpa
  have HS := Lib.hid hs
  have HT := Lib.hid ht
  clear g hpa hs ht
  go_enter Tryd.func24, Tryd.ntmps24
  go_wp2_with fail
  refine CN.out.mono ?_; rintro e w1 ⟨p, rfl, h1, _⟩
  have CS := Lib.hid (ll_send h1 (k := 0) (by decide) [97] (by decide))
  clear h1 CN
  go_wp2_with fail
  refine (send_no p 2 (by decide) (by decide) _ _).mono ?_; rintro e w2 ⟨rfl, rfl⟩
  go_wp2_with fail
  refine CS.out.mono ?_; rintro e w2 ⟨rfl, h2, _⟩
  rw [HS.out.1]
  rw [HS.out.2] at h2
  have CT := ll_take HG.out h2 (k := 0) (by decide) 99 (by decide) (by decide)
  unfold TakeOut at CT
  rw [HT.out.1, HT.out.2] at CT
  have CT := Lib.hid CT
  clear h2 CS
  go_wp2_with fail
  refine CT.out.mono ?_; rintro e w3 ⟨ov, rfl, ho, _, h3, _⟩
  obtain ⟨b1, o1, c1, rfl, _, _, hc1⟩ := ho.cells (by decide)
  have hc1 : w3.cell? ⟨b1, o1, none⟩ = some (.string (mk [97])) := hc1 0 (by decide)
  obtain ⟨A, hA⟩ : ∃ A, mk [97] = A := ⟨_, rfl⟩
  have hA2 : A.toList = [97] := by rw [← hA, ByteArray.toList_eq]; rfl
  rw [hA] at hc1
  have CE := Lib.hid (ll_epoch h3)
  have CW := Lib.hid (ll_waiting h3 (k := 0) (by decide))
  have CP := Lib.hid (ll_space h3 (k := 1) (by decide))
  have HE := Lib.hid h3.keeps
  clear hA ho h3 CT
  simp only [List.map_nil, List.length_nil, List.map_cons, List.length_cons]
  go_wp2_with (first | (go_at_call 29; refine CE.out.mono ?_; rintro e w6 ⟨rfl, rfl⟩) | (go_at_call 27; refine CW.out.mono ?_; rintro e w6 ⟨rfl, rfl⟩) | (go_at_call 32; refine CP.out.mono ?_; rintro e w6 ⟨rfl, rfl⟩))
  go_ret
  exact ⟨rfl, HE.out⟩
end Go.Proofs.YtfijpnhnlpgkgaaDoor
