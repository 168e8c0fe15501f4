/- The walks of the functions that copy and mark views and boxes, and look whether views are right. -/
import Derived.Test.YtaccaelocddakaaBT6
namespace Go.Proofs.Ytaccaelocddakaa
open Go Go.RowKit
set_option linter.unusedVariables false
set_option maxRecDepth 20000
variable [Tabs]

theorem toView (x : View) (x_uids : Value) (H : AH) (hS_x_uids : kInt.S H x_uids x.uids) (hn : x.uids.length ≤ 1048576) : FWp Try.prog 20 [.agg #[.string (bs x.box), .int .i64 x.valid, x_uids, .int .i64 x.mod]] H (fun v' H' => ∃ v, v' = .agg #[.string (bs x.box), .int .i64 x.valid, v, .int .i64 x.mod] ∧ FreshP (pVal kInt.slice [v] x.uids) H H') := by
  refine FWp.enterK Try.func20 rfl (by decide +kernel) rfl rfl fun Q q => ?_
  have hs0 := Sep.nil (H := H)
  refine CWp.seqK fun Kk1 k1 => ?_
  refine CWp.regionW [1, 2] ?_
  refine VC.s rfl (RVs.box rfl TyOf.h rfl rfl rfl ?_)
  intro b1 H1 g1 l1 a1
  have hs1 := Sep.addB hs0 g1 l1 a1
  refine VC.s rfl (RVs.alloc ZeroOf.h TyOf.h rfl rfl ?_)
  intro b2 H2 g2 l2 a2
  have hs2 := Sep.addB hs1 g2 l2 a2
  refine VC.nil (k1 ⟨18, [(1, _), (2, _)]⟩ _ ?_)
  refine CWp.seqK fun Kk2 k2 => ?_
  refine CWp.regionW [1, 2, 3] ?_
  refine VC.s rfl (RVs.alloc ZeroOf.h TyOf.h rfl rfl ?_)
  intro b3 H3 g3 l3 a3
  have hs3 := Sep.addB hs2 g3 l3 a3
  refine VC.nil (k2 ⟨18, [(1, _), (2, _), (3, _)]⟩ _ ?_)
  refine CWp.seqK fun Kk3 k3 => ?_
  refine CWp.regionW [1, 2, 3] ?_
  refine VC.s rfl (RVs.fieldAddr rfl FieldOf.h (by decide) rfl (fun _ => rfl) ?_)
  refine VC.s rfl (RVs.load rfl TyOf.h rfl (fun _ => ⟨rfl, (Sep.at_ (i := 2) hs3 rfl), rw_live, rfl⟩) ?_)
  refine VC.s rfl (RVs.fieldAddr rfl FieldOf.h (by decide) rfl (fun _ => rfl) ?_)
  refine VC.s rfl (RVs.storeB (i := 0) hs3 rfl rfl rfl TyOf.h rfl rfl rfl ⟨rfl, rfl⟩ (Nat.le_of_ble_eq_true rfl) rfl ?_)
  intro H4 hs4
  refine VC.nil (k3 ⟨18, [(1, _), (2, _), (3, _)]⟩ _ ?_)
  refine CWp.seqK fun Kk4 k4 => ?_
  refine CWp.regionW [1, 2, 3] ?_
  refine VC.s rfl (RVs.fieldAddr rfl FieldOf.h (by decide) rfl (fun _ => rfl) ?_)
  refine VC.s rfl (RVs.load rfl TyOf.h rfl (fun _ => ⟨rfl, (Sep.at_ (i := 2) hs4 rfl), rw_live, rfl⟩) ?_)
  refine VC.s rfl (RVs.fieldAddr rfl FieldOf.h (by decide) rfl (fun _ => rfl) ?_)
  refine VC.s rfl (RVs.storeB (i := 0) hs4 rfl rfl rfl TyOf.h rfl rfl rfl ⟨rfl, rfl⟩ (Nat.le_of_ble_eq_true rfl) rfl ?_)
  intro H5 hs5
  refine VC.nil (k4 ⟨18, [(1, _), (2, _), (3, _)]⟩ _ ?_)
  refine CWp.seqK fun Kk5 k5 => ?_
  refine CWp.regionW [1, 2, 3] ?_
  refine VC.s rfl (RVs.fieldAddr rfl FieldOf.h (by decide) rfl (fun _ => rfl) ?_)
  refine VC.s rfl (RVs.load rfl TyOf.h rfl (fun _ => ⟨rfl, (Sep.at_ (i := 2) hs5 rfl), rw_live, rfl⟩) ?_)
  refine VC.s rfl (RVs.call rfl rfl rfl rfl ⟨rfl, rfl⟩ (toIntS _ _ _ (hS_x_uids.mono (hle (hs5.pre))) hn) (.inr fun _ _ h => h.1) ?_)
  rintro v1 H6 f1
  have g4 := (Fresh.P f1).1
  have hs6 := Sep.addP hs5 (Fresh.P f1)
  refine VC.s rfl (RVs.fieldAddr rfl FieldOf.h (by decide) rfl (fun _ => rfl) ?_)
  refine VC.s rfl (RVs.storeB (i := 1) hs6 rfl rfl rfl TyOf.h rfl rfl rfl ⟨rfl, rfl⟩ (Nat.le_of_ble_eq_true rfl) ((Sep.VS (i := 0) hs6 rfl)).oc ?_)
  intro H7 hs7
  refine VC.nil (k5 ⟨18, [(1, _), (2, _), (3, _)]⟩ _ ?_)
  refine CWp.seqK fun Kk6 k6 => ?_
  refine CWp.regionW [2, 3] ?_
  refine VC.s rfl (RVs.fieldAddr rfl FieldOf.h (by decide) rfl (fun _ => rfl) ?_)
  refine VC.s rfl (RVs.load rfl TyOf.h rfl (fun _ => ⟨rfl, (Sep.at_ (i := 3) hs7 rfl), rw_live, rfl⟩) ?_)
  refine VC.s rfl (RVs.fieldAddr rfl FieldOf.h (by decide) rfl (fun _ => rfl) ?_)
  refine VC.s rfl (RVs.storeB (i := 1) hs7 rfl rfl rfl TyOf.h rfl rfl rfl ⟨rfl, rfl⟩ (Nat.le_of_ble_eq_true rfl) rfl ?_)
  intro H8 hs8
  refine VC.nil (k6 ⟨18, [(2, _), (3, _)]⟩ _ ?_)
  refine CWp.seqK fun Kk7 k7 => ?_
  refine CWp.regionW [2] ?_
  refine VC.s rfl (RVs.load_agg rfl TyOf.h rfl (fun _ => ⟨rfl, (Sep.at_ (i := 1) hs8 rfl), rw_live, Nat.le_of_ble_eq_true rfl, rfl⟩) ?_)
  refine VC.s rfl (RVs.storeBN (i := 2) hs8 rfl rfl rfl TyOf.h rfl rfl rfl ⟨rfl, rfl⟩ rfl (Nat.le_of_ble_eq_true rfl) (show List.all [_, _, _, _] oneCell = true from by simp only [List.all_cons, List.all_nil, ((Sep.VS (i := 0) hs8 rfl)).oc]; rfl) ?_)
  intro H9 hs9
  refine VC.nil (k7 ⟨18, [(2, _)]⟩ _ ?_)
  refine CWp.ret (q _ _ _ (.cons (.cells rfl (Ty.of TyOf.h) (Sep.at_ (i := 2) hs9 rfl) rw_live (Nat.le_of_ble_eq_true rfl)) .nil) ?_).1
  exact ⟨_, rfl, (Sep.fresh (i := 0) hs9 rfl)⟩

theorem markView (x : View) (v : Value) (k : Int) (F : List Nat) (H : AH) (hW : (pVal kInt.slice [v] x.uids).A H F) (nd : F.Nodup) (h0 : 0 ≤ k) (h1 : k + 1 * x.uids.length ≤ 4611686018427387904) : FWp Try.prog 25 [.agg #[.string (bs x.box), .int .i64 x.valid, v, .int .i64 x.mod], .int .i64 k] H (fun v' H' => v' = .int .i64 (k + 1 * x.uids.length) ∧ Chg H H' F ∧ ∃ F', (pVal kInt.slice [v] (marks (fun (i : Nat) => k + (i : Int)) x.uids.length)).A H' F' ∧ F'.Nodup ∧ ∀ j ∈ F', j ∈ F ∨ H.length ≤ j) := by
  refine FWp.enterK Try.func25 rfl (by decide +kernel) rfl rfl fun Q q => ?_
  have hs0 := Sep.start hW nd
  refine CWp.seqK fun Kk1 k1 => ?_
  refine CWp.regionW [1, 2] ?_
  refine VC.s rfl (RVs.box rfl TyOf.h rfl rfl rfl ?_)
  intro b1 H1 g1 l1 a1
  have hs1 := Sep.addB hs0 g1 l1 a1
  refine VC.s rfl (RVs.assign rfl rfl (fun _ => rfl) ?_)
  refine VC.nil (k1 ⟨10, [(1, _), (2, _)]⟩ _ ?_)
  refine CWp.seqK fun Kk2 k2 => ?_
  refine CWp.regionW [1] ?_
  refine VC.s rfl (RVs.fieldAddr rfl FieldOf.h (by decide) rfl (fun _ => rfl) ?_)
  refine VC.s rfl (RVs.load rfl TyOf.h rfl (fun _ => ⟨rfl, (Sep.at_ (i := 0) hs1 rfl), rw_live, rfl⟩) ?_)
  refine VC.s rfl (RVs.move rfl rfl (fun _ => rfl) ?_)
  obtain ⟨F1, fa1, fn1, fl1, ff1, fo1⟩ := Sep.apart (i := 1) hs1 rfl
  refine VC.s rfl (RVs.call rfl rfl rfl rfl ⟨rfl, rfl⟩ (markIntS _ _ _ _ _ fa1 fn1 h0 (by omega)) (.inl rfl) ?_)
  rintro v1 H2 ⟨rfl, ch1, F2, fq1, fd1, fs1⟩
  have hs2 := ff1 _ _ _ ch1 fq1 fd1 fs1
  refine VC.s rfl (RVs.assign rfl rfl (fun _ => rfl) ?_)
  refine VC.nil (k2 ⟨10, [(1, _)]⟩ _ ?_)
  refine CWp.seqK fun Kk3 k3 => ?_
  refine CWp.regionW [4] ?_
  refine VC.s rfl (RVs.move rfl rfl (fun _ => rfl) ?_)
  refine VC.s rfl (RVs.assign rfl rfl (fun _ => rfl) ?_)
  refine VC.nil (k3 ⟨10, [(4, _)]⟩ _ ?_)
  refine CWp.ret (q _ _ _ (.cons (.tmp rfl) .nil) ?_).1
  exact ⟨rfl, Sep.done (i := 1) hs2 rfl⟩

theorem markBox (x : Box) (v w : Value) (k : Int) (F : List Nat) (H : AH) (hW : ((pVal kTomb.slice [w] x.tombs).star (pVal kMail.slice [v] x.mails)).A H F) (nd : F.Nodup) (h0 : 0 ≤ k) (h1 : k + 4 * x.mails.length + 2 * x.tombs.length ≤ 4611686018427387904) : FWp Try.prog 26 [.agg #[.string (bs x.name), .int .i64 x.valid, .int .i64 x.next, .int .i64 x.mod, v, w, .int .i64 x.horizon], .int .i64 k] H (fun v' H' => v' = .int .i64 (k + 4 * x.mails.length + 2 * x.tombs.length) ∧ Chg H H' F ∧ ∃ q F', Pr.A q H' F' ∧ F'.Nodup ∧ ∀ j ∈ F', j ∈ F ∨ H.length ≤ j) := by
  refine FWp.enterK Try.func26 rfl (by decide +kernel) rfl rfl fun Q q => ?_
  have hs0 := Sep.split (Sep.start hW nd)
  refine CWp.seqK fun Kk1 k1 => ?_
  refine CWp.regionW [1, 2] ?_
  refine VC.s rfl (RVs.box rfl TyOf.h rfl rfl rfl ?_)
  intro b1 H1 g1 l1 a1
  have hs1 := Sep.addB hs0 g1 l1 a1
  refine VC.s rfl (RVs.assign rfl rfl (fun _ => rfl) ?_)
  refine VC.nil (k1 ⟨14, [(1, _), (2, _)]⟩ _ ?_)
  refine CWp.seqK fun Kk2 k2 => ?_
  refine CWp.regionW [1, 2] ?_
  refine VC.s rfl (RVs.fieldAddr rfl FieldOf.h (by decide) rfl (fun _ => rfl) ?_)
  refine VC.s rfl (RVs.load rfl TyOf.h rfl (fun _ => ⟨rfl, (Sep.at_ (i := 0) hs1 rfl), rw_live, rfl⟩) ?_)
  refine VC.s rfl (RVs.move rfl rfl (fun _ => rfl) ?_)
  obtain ⟨F1, fa1, fn1, fl1, ff1, fo1⟩ := Sep.apart (i := 2) hs1 rfl
  refine VC.s rfl (RVs.call rfl rfl rfl rfl ⟨rfl, rfl⟩ (markMailS _ _ _ _ _ fa1 fn1 h0 (by omega)) (.inl rfl) ?_)
  rintro v1 H2 ⟨rfl, ch1, F2, fq1, fd1, fs1⟩
  have hs2 := ff1 _ _ _ ch1 fq1 fd1 fs1
  refine VC.s rfl (RVs.assign rfl rfl (fun _ => rfl) ?_)
  refine VC.nil (k2 ⟨14, [(1, _), (2, _)]⟩ _ ?_)
  refine CWp.seqK fun Kk3 k3 => ?_
  refine CWp.regionW [1] ?_
  refine VC.s rfl (RVs.fieldAddr rfl FieldOf.h (by decide) rfl (fun _ => rfl) ?_)
  refine VC.s rfl (RVs.load rfl TyOf.h rfl (fun _ => ⟨rfl, (Sep.at_ (i := 0) hs2 rfl), rw_live, rfl⟩) ?_)
  refine VC.s rfl (RVs.move rfl rfl (fun _ => rfl) ?_)
  obtain ⟨F3, fa2, fn2, fl2, ff2, fo2⟩ := Sep.apart (i := 1) hs2 rfl
  refine VC.s rfl (RVs.call rfl rfl rfl rfl ⟨rfl, rfl⟩ (markTombS _ _ _ _ _ fa2 fn2 (by omega) (by omega)) (.inl rfl) ?_)
  rintro v2 H3 ⟨rfl, ch2, F4, fq2, fd2, fs2⟩
  have hs3 := ff2 _ _ _ ch2 fq2 fd2 fs2
  refine VC.s rfl (RVs.assign rfl rfl (fun _ => rfl) ?_)
  refine VC.nil (k3 ⟨14, [(1, _)]⟩ _ ?_)
  refine CWp.seqK fun Kk4 k4 => ?_
  refine CWp.regionW [4] ?_
  refine VC.s rfl (RVs.move rfl rfl (fun _ => rfl) ?_)
  refine VC.s rfl (RVs.assign rfl rfl (fun _ => rfl) ?_)
  refine VC.nil (k4 ⟨14, [(4, _)]⟩ _ ?_)
  refine CWp.ret (q _ _ _ (.cons (.tmp rfl) .nil) ?_).1
  have hd := Sep.done (i := 0) (Sep.join (Sep.del hs3 0)) rfl
  exact ⟨rfl, hd.1, _, hd.2⟩

theorem heldView (x : View) (v : Value) (ys : List Int) (k : Int) (H : AH) (hS : kInt.S H v ys) (hx : ys = marks (fun (i : Nat) => k + (i : Int)) ys.length) (h0 : 0 ≤ k) (h1 : k + 1 * ys.length ≤ 4611686018427387904) : FWp Try.prog 27 [.agg #[.string (bs x.box), .int .i64 x.valid, v, .int .i64 x.mod], .int .i64 k] H (fun v' H' => v' = .int .i64 (k + 1 * ys.length) ∧ H' = H) := by
  refine FWp.pure rfl fun H ph => ?_
  replace hS := hS.mono (hle ph)
  refine FWp.enterK Try.func27 rfl (by decide +kernel) rfl rfl fun Q q => ?_
  have hs0 := Sep.nil (H := H)
  refine CWp.seqK fun Kk1 k1 => ?_
  refine CWp.regionW [1, 2] ?_
  refine VC.s rfl (RVs.box rfl TyOf.h rfl rfl rfl ?_)
  intro b1 H1 g1 l1 a1
  have hs1 := Sep.addB hs0 g1 l1 a1
  refine VC.s rfl (RVs.assign rfl rfl (fun _ => rfl) ?_)
  refine VC.nil (k1 ⟨12, [(1, _), (2, _)]⟩ _ ?_)
  refine CWp.seqK fun Kk2 k2 => ?_
  refine CWp.regionW [1] ?_
  refine VC.s rfl (RVs.fieldAddr rfl FieldOf.h (by decide) rfl (fun _ => rfl) ?_)
  refine VC.s rfl (RVs.load rfl TyOf.h rfl (fun _ => ⟨rfl, (Sep.at_ (i := 0) hs1 rfl), rw_live, rfl⟩) ?_)
  refine VC.s rfl (RVs.move rfl rfl (fun _ => rfl) ?_)
  refine VC.s rfl (RVs.callp rfl rfl rfl (fun _ => ⟨⟨rfl, rfl⟩, heldIntS _ _ _ _ (hS.mono (hle (hs1.pre))) hx h0 (by omega)⟩) ?_)
  refine VC.s rfl (RVs.assign rfl rfl (fun _ => rfl) ?_)
  refine VC.nil (k2 ⟨12, [(1, _)]⟩ _ ?_)
  refine CWp.seqK fun Kk3 k3 => ?_
  refine CWp.seqK fun Kk4 k4 => ?_
  refine CWp.regionW [1, 10] ?_
  refine VC.s rfl (RVs.move rfl rfl (fun _ => rfl) ?_)
  refine VC.s rfl (RVs.bin rfl rfl rfl rfl (fun _ => ⟨⟨rfl, rfl⟩, rfl⟩) ?_)
  refine VC.nil (k4 ⟨12, [(1, _), (10, _)]⟩ _ ?_)
  refine CWp.condV rfl (fun hc1 => ?_) (fun hc1 => ?_)
  · exact absurd (of_decide_eq_true hc1) (by omega)
  · try simp at hc1
    refine CWp.skip ?_
    refine k3 _ _ ?_
    refine CWp.seqK fun Kk5 k5 => ?_
    refine CWp.regionW [4] ?_
    refine VC.s rfl (RVs.move rfl rfl (fun _ => rfl) ?_)
    refine VC.s rfl (RVs.assign rfl rfl (fun _ => rfl) ?_)
    refine VC.nil (k5 ⟨12, [(4, _)]⟩ _ ?_)
    refine CWp.ret (q _ _ _ (.cons (.tmp rfl) .nil) ?_).1
    exact ⟨rfl, (hs1.pre)⟩

theorem isMod (x : Int) (H : AH) : FWp Try.prog 98 [.int .i64 x] H (fun v' H' => v' = .bool (decide (1 ≤ x ∧ x ≤ 100000)) ∧ H' = H) := by
  refine FWp.pure rfl fun H ph => ?_
  refine FWp.enterK Try.func98 rfl (by decide +kernel) rfl rfl fun Q q => ?_
  have hs0 := Sep.nil (H := H)
  refine CWp.seqK fun Kk1 k1 => ?_
  refine CWp.regionW [0] ?_
  refine VC.s rfl (RVs.assign rfl rfl (fun _ => rfl) ?_)
  refine VC.nil (k1 ⟨5, [(0, _)]⟩ _ ?_)
  refine CWp.seqK fun Kk2 k2 => ?_
  refine CWp.regionW [2] ?_
  refine VC.s rfl (RVs.move rfl rfl (fun _ => rfl) ?_)
  refine VC.s rfl (RVs.callp rfl rfl rfl (fun _ => ⟨⟨rfl, rfl⟩, within _ _ _ _⟩) ?_)
  refine VC.s rfl (RVs.assign rfl rfl (fun _ => rfl) ?_)
  refine VC.nil (k2 ⟨5, [(2, _)]⟩ _ ?_)
  refine CWp.ret (q _ _ _ (.cons (.tmp rfl) .nil) ?_).1
  exact ⟨rfl, (hs0.pre)⟩

theorem sViewOk (x : View) (x_uids : Value) (H : AH) (hS_x_uids : kInt.S H x_uids x.uids) (hb_x_box : x.box.length ≤ lim) : FWp Try.prog 53 [.agg #[.string (bs x.box), .int .i64 x.valid, x_uids, .int .i64 x.mod]] H (fun v' H' => v' = .bool (viewOk x) ∧ H' = H) := by
  refine FWp.pure rfl fun H ph => ?_
  replace hS_x_uids := hS_x_uids.mono (hle ph)
  have hS_x_uidsl := hS_x_uids.lim
  unfold lim at hS_x_uidsl
  obtain ⟨aa, ca, rfl, hS_x_uidsc⟩ := hS_x_uids.form
  refine FWp.enterK Try.func53 rfl (by decide +kernel) rfl rfl fun Q q => ?_
  have hs0 := Sep.nil (H := H)
  refine CWp.seqK fun Kk1 k1 => ?_
  refine CWp.regionW [1] ?_
  refine VC.s rfl (RVs.box rfl TyOf.h rfl rfl rfl ?_)
  intro b1 H1 g1 l1 a1
  have hs1 := Sep.addB hs0 g1 l1 a1
  refine VC.s rfl (RVs.assign rfl rfl (fun _ => rfl) ?_)
  refine VC.nil (k1 ⟨55, [(1, _)]⟩ _ ?_)
  refine CWp.seqK fun Kk2 k2 => ?_
  refine CWp.seqK fun Kk3 k3 => ?_
  refine CWp.regionW [1, 3] ?_
  refine VC.s rfl (RVs.assign rfl rfl (fun _ => rfl) ?_)
  refine VC.nil (k3 ⟨55, [(1, _), (3, _)]⟩ _ ?_)
  refine CWp.block ?_
  refine CWp.loopK (fun n T H' => ∃ i : Nat, T = ⟨55, [(1, .pointer (some ⟨b1, 0, none⟩)), (3, .int .i64 (i : Int))]⟩ ∧ n = x.uids.length - i ∧ (i ≤ x.uids.length) ∧ (∀ j, j < i → viewOkAt x j = true) ∧ H1 <+: H') (n := x.uids.length) ⟨0, rfl, by first | rfl | simp, by omega, by intro j hj; omega, List.prefix_refl _⟩ ?_
  rintro n T Hl1 Kk4 k4 ⟨i, rfl, hn1, hi, ho, hs2⟩
  have hs3 := Sep.grow hs1 hs2
  have hs4 := Sep.nil (H := Hl1)
  refine CWp.seqK fun Kk5 k5 => ?_
  refine CWp.seqK fun Kk6 k6 => ?_
  refine CWp.regionW [1, 3, 8] ?_
  refine VC.s rfl (RVs.move rfl rfl (fun _ => rfl) ?_)
  refine VC.s rfl (RVs.fieldAddr rfl FieldOf.h (by decide) rfl (fun _ => rfl) ?_)
  refine VC.s rfl (RVs.load rfl TyOf.h rfl (fun _ => ⟨rfl, (get_prefix (hs4.pre) (Sep.at_ (i := 0) hs3 rfl)), rw_live, rfl⟩) ?_)
  refine VC.s rfl (RVs.len_slice rfl UnSl.h rfl (fun _ => rfl) ?_)
  refine VC.s rfl (RVs.bin rfl rfl rfl rfl (fun _ => ⟨⟨rfl, rfl⟩, rfl⟩) ?_)
  refine VC.nil (k6 ⟨55, [(1, _), (3, _), (8, _)]⟩ _ ?_)
  refine CWp.condV rfl (fun hc1 => ?_) (fun hc1 => ?_)
  · try simp at hc1
    refine CWp.skip ?_
    refine k5 _ _ ?_
    refine CWp.seqK fun Kk7 k7 => ?_
    refine CWp.block ?_
    refine CWp.seqK fun Kk8 k8 => ?_
    refine CWp.regionDW [1, 3, 35] [false, false, false, false, false, false, false, false, false, false, false, false, false, false, false, false, false, false, false, false, false, false, false, false, false] (by decide +kernel) ?_
    refine VC.s rfl (RVs.fieldAddr rfl FieldOf.h (by decide) rfl (fun _ => rfl) ?_)
    refine VC.s rfl (RVs.load rfl TyOf.h rfl (fun _ => ⟨rfl, (get_prefix (hs4.pre) (Sep.at_ (i := 0) hs3 rfl)), rw_live, rfl⟩) ?_)
    refine VC.s rfl (RVs.move rfl rfl (fun _ => rfl) ?_)
    refine VC.s rfl (RVs.indexS rfl (hS_x_uids.mono (hle (List.IsPrefix.trans hs3.pre (hs4.pre)))) rfl ElemOf.h rfl (fun _ => ⟨⟨rfl, rfl⟩, by omega, by omega⟩) ?_)
    intro id1 j1 u1 B1 e1
    obtain ⟨y1, hy1, e1⟩ := e1 rfl
    try simp only [Int.toNat_natCast] at hy1
    have hry1 := e1.r; obtain rfl := hry1
    refine VC.s rfl (RVs.loadF (k := kInt) (f := 0) rfl TyOf.h rfl (fun _ => ⟨rfl, e1, by decide, rfl⟩) ?_)
    refine VC.s rfl (RVs.callp rfl rfl rfl (fun _ => ⟨⟨rfl, rfl⟩, l01In _ _ _ _⟩) ?_)
    refine VC.s rfl (RVs.not rfl rfl (fun _ => rfl) ?_)
    refine VC.s rfl (RVs.move rfl rfl (fun _ => rfl) ?_)
    refine VC.s rfl (RVs.move rfl rfl (fun hg => rfl) ?_)
    refine VC.s rfl (RVs.bin rfl rfl rfl rfl (fun hg => ⟨⟨hg, rfl⟩, rfl⟩) ?_)
    refine VC.s rfl (RVs.move rfl rfl (fun hg => hg) ?_)
    refine VC.s rfl (RVs.fieldAddr rfl FieldOf.h (by decide) rfl (fun hg => rfl) ?_)
    refine VC.s rfl (RVs.load rfl TyOf.h rfl (fun hg => ⟨hg, (get_prefix (hs4.pre) (Sep.at_ (i := 0) hs3 rfl)), rw_live, rfl⟩) ?_)
    refine VC.s rfl (RVs.move rfl rfl (fun hg => rfl) ?_)
    refine VC.s rfl (RVs.arith (r := ((i : Int) - 1)) rfl rfl rfl (by (try simp only [bl_bs]); first | exact wrap_in (by omega) | (rw [wrap_in (by omega)]; omega)) rfl (fun hg => ⟨⟨hg, rfl⟩, rfl⟩) ?_)
    refine VC.s rfl (RVs.indexS rfl (hS_x_uids.mono (hle (List.IsPrefix.trans hs3.pre (hs4.pre)))) rfl ElemOf.h rfl (fun hg => ⟨⟨hg, hg⟩, by (have hg2 := hg; simp at hg2; omega), by (have hg2 := hg; simp at hg2; omega)⟩) ?_)
    intro id2 j2 u2 B2 e2
    have e3 := fun hg => pv_epq (0 : Int) (q' := i - 1) (by omega) (e2 hg)
    refine VC.s rfl (RVs.loadF (k := kInt) (f := 0) (v := .int .i64 (x.uids[i - 1]?.getD (0 : Int))) rfl TyOf.h rfl (fun hg => ⟨hg, (e3 hg), by decide, by have hq := (e3 hg).r; obtain rfl := hq; rfl⟩) ?_)
    refine VC.s rfl (RVs.fieldAddr rfl FieldOf.h (by decide) rfl (fun hg => rfl) ?_)
    refine VC.s rfl (RVs.load rfl TyOf.h rfl (fun hg => ⟨hg, (get_prefix (hs4.pre) (Sep.at_ (i := 0) hs3 rfl)), rw_live, rfl⟩) ?_)
    refine VC.s rfl (RVs.move rfl rfl (fun hg => rfl) ?_)
    refine VC.s rfl (RVs.indexS rfl (hS_x_uids.mono (hle (List.IsPrefix.trans hs3.pre (hs4.pre)))) rfl ElemOf.h rfl (fun hg => ⟨⟨hg, hg⟩, by (have hg2 := hg; simp at hg2; omega), by (have hg2 := hg; simp at hg2; omega)⟩) ?_)
    intro id3 j3 u3 B3 e4
    have e5 := fun hg => pv_epq (0 : Int) (q' := i) (by omega) (e4 hg)
    refine VC.s rfl (RVs.loadF (k := kInt) (f := 0) (v := .int .i64 (x.uids[i]?.getD (0 : Int))) rfl TyOf.h rfl (fun hg => ⟨hg, (e5 hg), by decide, by have hq := (e5 hg).r; obtain rfl := hq; rfl⟩) ?_)
    refine VC.s rfl (RVs.bin rfl rfl rfl rfl (fun hg => ⟨⟨hg, hg⟩, rfl⟩) ?_)
    refine VC.s rfl (RVs.pick rfl rfl rfl rfl (fun hg => ⟨hg, fun hh => pk_t hh hg, fun _ => rfl⟩) ?_)
    refine VC.s rfl (RVs.pick rfl rfl rfl rfl (fun hg => ⟨rfl, fun _ => rfl, fun hh => pk_f hh rfl⟩) ?_)
    refine VC.nil (k8 ⟨55, [(1, _), (3, _), (35, _)]⟩ _ ?_)
    refine CWp.condV rfl (fun hc2 => ?_) (fun hc2 => ?_)
    · (try simp only [hy1, Option.getD_some] at hc2)
      have hk := view_no (view_cond hy1) hc2
      refine CWp.seqK fun Kk9 k9 => ?_
      refine CWp.regionW [2] ?_
      refine VC.s rfl (RVs.assign rfl rfl (fun _ => rfl) ?_)
      refine VC.nil (k9 ⟨55, [(2, _)]⟩ _ ?_)
      refine CWp.ret (q _ _ _ (.cons (.tmp rfl) .nil) ?_).1
      exact ⟨by simp only [one, viewOk]; rw [all_bad (by omega) hk]; rfl, (List.IsPrefix.trans hs3.pre (hs4.pre))⟩
    · (try simp only [hy1, Option.getD_some] at hc2)
      have hk := view_yes (view_cond hy1) hc2
      refine CWp.skip ?_
      refine k7 _ _ ?_
      refine CWp.regionW [1, 3] ?_
      refine VC.s rfl (RVs.move rfl rfl (fun _ => rfl) ?_)
      refine VC.s rfl (RVs.arith (r := ((i + 1 : Nat) : Int)) rfl rfl rfl (by (try simp only [bl_bs]); first | exact wrap_in (by omega) | (rw [wrap_in (by omega)]; omega)) rfl (fun _ => ⟨⟨rfl, rfl⟩, rfl⟩) ?_)
      refine VC.s rfl (RVs.assign rfl rfl (fun _ => rfl) ?_)
      refine VC.nil (k4 _ ⟨55, [(1, _), (3, _)]⟩ _ ?_ ⟨i + 1, rfl, rfl, by omega, all_step ho hk, List.IsPrefix.trans hs2 hs4.pre⟩)
      omega
  · try simp at hc1
    refine CWp.exit ?_
    refine k2 _ _ ?_
    refine CWp.seqK fun Kk10 k10 => ?_
    refine CWp.regionW [2] ?_
    refine VC.s rfl (RVs.fieldAddr rfl FieldOf.h (by decide) rfl (fun _ => rfl) ?_)
    refine VC.s rfl (RVs.load rfl TyOf.h rfl (fun _ => ⟨rfl, (get_prefix (hs4.pre) (Sep.at_ (i := 0) hs3 rfl)), rw_live, rfl⟩) ?_)
    refine VC.s rfl (RVs.callp rfl rfl rfl (fun _ => ⟨⟨rfl, rfl⟩, sBoxName _ _ hb_x_box⟩) ?_)
    refine VC.s rfl (RVs.move rfl rfl (fun _ => rfl) ?_)
    refine VC.s rfl (RVs.fieldAddr rfl FieldOf.h (by decide) rfl (fun hg => rfl) ?_)
    refine VC.s rfl (RVs.load rfl TyOf.h rfl (fun hg => ⟨hg, (get_prefix (hs4.pre) (Sep.at_ (i := 0) hs3 rfl)), rw_live, rfl⟩) ?_)
    refine VC.s rfl (RVs.callp rfl rfl rfl (fun hg => ⟨⟨rfl, (GF.conds_cons hg (GF.conds_cons rfl (GF.conds_cons rfl rfl)))⟩, l01In _ _ _ _⟩) ?_)
    refine VC.s rfl (RVs.pick rfl rfl rfl rfl (fun hg => ⟨rfl, fun hh => pk_t hh rfl, fun _ => rfl⟩) ?_)
    refine VC.s rfl (RVs.move rfl rfl (fun _ => rfl) ?_)
    refine VC.s rfl (RVs.fieldAddr rfl FieldOf.h (by decide) rfl (fun hg => rfl) ?_)
    refine VC.s rfl (RVs.load rfl TyOf.h rfl (fun hg => ⟨hg, (get_prefix (hs4.pre) (Sep.at_ (i := 0) hs3 rfl)), rw_live, rfl⟩) ?_)
    refine VC.s rfl (RVs.len_slice rfl UnSl.h rfl (fun hg => hg) ?_)
    refine VC.s rfl (RVs.bin rfl rfl rfl rfl (fun hg => ⟨⟨hg, rfl⟩, rfl⟩) ?_)
    refine VC.s rfl (RVs.pick rfl rfl rfl rfl (fun hg => ⟨rfl, fun hh => pk_t hh rfl, fun _ => rfl⟩) ?_)
    refine VC.s rfl (RVs.move rfl rfl (fun _ => rfl) ?_)
    refine VC.s rfl (RVs.fieldAddr rfl FieldOf.h (by decide) rfl (fun hg => rfl) ?_)
    refine VC.s rfl (RVs.load rfl TyOf.h rfl (fun hg => ⟨hg, (get_prefix (hs4.pre) (Sep.at_ (i := 0) hs3 rfl)), rw_live, rfl⟩) ?_)
    refine VC.s rfl (RVs.callp rfl rfl rfl (fun hg => ⟨⟨rfl, (GF.conds_cons hg (GF.conds_cons rfl (GF.conds_cons rfl rfl)))⟩, l01In _ _ _ _⟩) ?_)
    refine VC.s rfl (RVs.pick rfl rfl rfl rfl (fun hg => ⟨rfl, fun hh => pk_t hh rfl, fun _ => rfl⟩) ?_)
    refine VC.s rfl (RVs.assign rfl rfl (fun _ => rfl) ?_)
    refine VC.nil (k10 ⟨55, [(2, _)]⟩ _ ?_)
    refine CWp.ret (q _ _ _ (.cons (.tmp rfl) .nil) ?_).1
    exact ⟨by simp only [one, viewOk]; rw [all_end ho (by omega)]; exact congrArg Value.bool (so_fin _ _ _ _), (List.IsPrefix.trans hs3.pre (hs4.pre))⟩

theorem iViewOk (x : View) (x_uids : Value) (H : AH) (hS_x_uids : kInt.S H x_uids x.uids) (hb_x_box : x.box.length ≤ lim) : FWp Try.prog 60 [.agg #[.string (bs x.box), .int .i64 x.valid, x_uids, .int .i64 x.mod]] H (fun v' H' => v' = .bool (viewOk x) ∧ H' = H) := by
  refine FWp.pure rfl fun H ph => ?_
  replace hS_x_uids := hS_x_uids.mono (hle ph)
  have hS_x_uidsl := hS_x_uids.lim
  unfold lim at hS_x_uidsl
  obtain ⟨aa, ca, rfl, hS_x_uidsc⟩ := hS_x_uids.form
  refine FWp.enterK Try.func60 rfl (by decide +kernel) rfl rfl fun Q q => ?_
  have hs0 := Sep.nil (H := H)
  refine CWp.seqK fun Kk1 k1 => ?_
  refine CWp.regionW [1] ?_
  refine VC.s rfl (RVs.box rfl TyOf.h rfl rfl rfl ?_)
  intro b1 H1 g1 l1 a1
  have hs1 := Sep.addB hs0 g1 l1 a1
  refine VC.s rfl (RVs.assign rfl rfl (fun _ => rfl) ?_)
  refine VC.nil (k1 ⟨50, [(1, _)]⟩ _ ?_)
  refine CWp.seqK fun Kk2 k2 => ?_
  refine CWp.seqK fun Kk3 k3 => ?_
  refine CWp.regionW [1, 6, 7, 8] ?_
  refine VC.s rfl (RVs.fieldAddr rfl FieldOf.h (by decide) rfl (fun _ => rfl) ?_)
  refine VC.s rfl (RVs.load rfl TyOf.h rfl (fun _ => ⟨rfl, (Sep.at_ (i := 0) hs1 rfl), rw_live, rfl⟩) ?_)
  refine VC.s rfl (RVs.len_slice rfl UnSl.h rfl (fun _ => rfl) ?_)
  refine VC.s rfl (RVs.move rfl rfl (fun _ => rfl) ?_)
  refine VC.nil (k3 ⟨50, [(1, _), (6, _), (7, _), (8, _)]⟩ _ ?_)
  refine CWp.block ?_
  refine CWp.loopK (fun n T H' => ∃ i : Nat, T = ⟨50, [(1, .pointer (some ⟨b1, 0, none⟩)), (6, .slice aa x.uids.length ca), (7, .int .i64 (x.uids.length : Int)), (8, .int .i64 (i : Int))]⟩ ∧ n = x.uids.length - i ∧ (i ≤ x.uids.length) ∧ (∀ j, j < i → viewOkAt x j = true) ∧ H1 <+: H') (n := x.uids.length) ⟨0, rfl, by first | rfl | simp, by omega, by intro j hj; omega, List.prefix_refl _⟩ ?_
  rintro n T Hl1 Kk4 k4 ⟨i, rfl, hn1, hi, ho, hs2⟩
  have hs3 := Sep.grow hs1 hs2
  have hs4 := Sep.nil (H := Hl1)
  refine CWp.seqK fun Kk5 k5 => ?_
  refine CWp.regionW [1, 6, 7, 8, 9] ?_
  refine VC.s rfl (RVs.bin rfl rfl rfl rfl (fun _ => ⟨⟨rfl, rfl⟩, rfl⟩) ?_)
  refine VC.nil (k5 ⟨50, [(1, _), (6, _), (7, _), (8, _), (9, _)]⟩ _ ?_)
  refine CWp.seqK fun Kk6 k6 => ?_
  refine CWp.condV rfl (fun hc1 => ?_) (fun hc1 => ?_)
  · try simp at hc1
    refine CWp.skip ?_
    refine k6 _ _ ?_
    refine CWp.seqK fun Kk7 k7 => ?_
    refine CWp.block ?_
    refine CWp.seqK fun Kk8 k8 => ?_
    refine CWp.regionW [1, 3, 4, 6, 7, 8] ?_
    refine VC.s rfl (RVs.move rfl rfl (fun _ => rfl) ?_)
    refine VC.s rfl (RVs.indexS rfl (hS_x_uids.mono (hle (List.IsPrefix.trans hs3.pre (hs4.pre)))) rfl ElemOf.h rfl (fun _ => ⟨⟨rfl, rfl⟩, by omega, by omega⟩) ?_)
    intro id1 j1 u1 B1 e1
    obtain ⟨y1, hy1, e1⟩ := e1 rfl
    try simp only [Int.toNat_natCast] at hy1
    have hry1 := e1.r; obtain rfl := hry1
    refine VC.s rfl (RVs.loadF (k := kInt) (f := 0) rfl TyOf.h rfl (fun _ => ⟨rfl, e1, by decide, rfl⟩) ?_)
    refine VC.s rfl (RVs.assign rfl rfl (fun _ => rfl) ?_)
    refine VC.s rfl (RVs.assign rfl rfl (fun _ => rfl) ?_)
    refine VC.nil (k8 ⟨50, [(1, _), (3, _), (4, _), (6, _), (7, _), (8, _)]⟩ _ ?_)
    refine CWp.seqK fun Kk9 k9 => ?_
    refine CWp.regionW [1, 6, 7, 8, 29] ?_
    refine VC.s rfl (RVs.move rfl rfl (fun _ => rfl) ?_)
    refine VC.s rfl (RVs.callp rfl rfl rfl (fun _ => ⟨⟨rfl, rfl⟩, isUid _ _⟩) ?_)
    refine VC.s rfl (RVs.not rfl rfl (fun _ => rfl) ?_)
    refine VC.s rfl (RVs.move rfl rfl (fun _ => rfl) ?_)
    refine VC.s rfl (RVs.move rfl rfl (fun hg => rfl) ?_)
    refine VC.s rfl (RVs.bin rfl rfl rfl rfl (fun hg => ⟨⟨hg, rfl⟩, rfl⟩) ?_)
    refine VC.s rfl (RVs.move rfl rfl (fun hg => hg) ?_)
    refine VC.s rfl (RVs.fieldAddr rfl FieldOf.h (by decide) rfl (fun hg => rfl) ?_)
    refine VC.s rfl (RVs.load rfl TyOf.h rfl (fun hg => ⟨hg, (get_prefix (hs4.pre) (Sep.at_ (i := 0) hs3 rfl)), rw_live, rfl⟩) ?_)
    refine VC.s rfl (RVs.move rfl rfl (fun hg => rfl) ?_)
    refine VC.s rfl (RVs.arith (r := ((i : Int) - 1)) rfl rfl rfl (by (try simp only [bl_bs]); first | exact wrap_in (by omega) | (rw [wrap_in (by omega)]; omega)) rfl (fun hg => ⟨⟨hg, rfl⟩, rfl⟩) ?_)
    refine VC.s rfl (RVs.indexS rfl (hS_x_uids.mono (hle (List.IsPrefix.trans hs3.pre (hs4.pre)))) rfl ElemOf.h rfl (fun hg => ⟨⟨hg, hg⟩, by (have hg2 := hg; simp at hg2; omega), by (have hg2 := hg; simp at hg2; omega)⟩) ?_)
    intro id2 j2 u2 B2 e2
    have e3 := fun hg => pv_epq (0 : Int) (q' := i - 1) (by omega) (e2 hg)
    refine VC.s rfl (RVs.loadF (k := kInt) (f := 0) (v := .int .i64 (x.uids[i - 1]?.getD (0 : Int))) rfl TyOf.h rfl (fun hg => ⟨hg, (e3 hg), by decide, by have hq := (e3 hg).r; obtain rfl := hq; rfl⟩) ?_)
    refine VC.s rfl (RVs.move rfl rfl (fun hg => rfl) ?_)
    refine VC.s rfl (RVs.bin rfl rfl rfl rfl (fun hg => ⟨⟨hg, hg⟩, rfl⟩) ?_)
    refine VC.s rfl (RVs.pick rfl rfl rfl rfl (fun hg => ⟨hg, fun hh => pk_t hh hg, fun _ => rfl⟩) ?_)
    refine VC.s rfl (RVs.pick rfl rfl rfl rfl (fun hg => ⟨rfl, fun _ => rfl, fun hh => pk_f hh rfl⟩) ?_)
    refine VC.nil (k9 ⟨50, [(1, _), (6, _), (7, _), (8, _), (29, _)]⟩ _ ?_)
    refine CWp.condV rfl (fun hc2 => ?_) (fun hc2 => ?_)
    · (try simp only [hy1, Option.getD_some] at hc2)
      have hk := view_no (view_cond hy1) hc2
      refine CWp.seqK fun Kk10 k10 => ?_
      refine CWp.regionW [2] ?_
      refine VC.s rfl (RVs.assign rfl rfl (fun _ => rfl) ?_)
      refine VC.nil (k10 ⟨50, [(2, _)]⟩ _ ?_)
      refine CWp.ret (q _ _ _ (.cons (.tmp rfl) .nil) ?_).1
      exact ⟨by simp only [one, viewOk]; rw [all_bad (by omega) hk]; rfl, (List.IsPrefix.trans hs3.pre (hs4.pre))⟩
    · (try simp only [hy1, Option.getD_some] at hc2)
      have hk := view_yes (view_cond hy1) hc2
      refine CWp.skip ?_
      refine k7 _ _ ?_
      refine CWp.regionW [1, 6, 7, 8] ?_
      refine VC.s rfl (RVs.arith (r := ((i + 1 : Nat) : Int)) rfl rfl rfl (by (try simp only [bl_bs]); first | exact wrap_in (by omega) | (rw [wrap_in (by omega)]; omega)) rfl (fun _ => ⟨⟨rfl, rfl⟩, rfl⟩) ?_)
      refine VC.s rfl (RVs.move rfl rfl (fun _ => rfl) ?_)
      refine VC.nil (k4 _ ⟨50, [(1, _), (6, _), (7, _), (8, _)]⟩ _ ?_ ⟨i + 1, rfl, rfl, by omega, all_step ho hk, List.IsPrefix.trans hs2 hs4.pre⟩)
      omega
  · try simp at hc1
    refine CWp.exit ?_
    refine k2 _ _ ?_
    refine CWp.seqK fun Kk11 k11 => ?_
    refine CWp.regionW [2] ?_
    refine VC.s rfl (RVs.fieldAddr rfl FieldOf.h (by decide) rfl (fun _ => rfl) ?_)
    refine VC.s rfl (RVs.load rfl TyOf.h rfl (fun _ => ⟨rfl, (get_prefix (hs4.pre) (Sep.at_ (i := 0) hs3 rfl)), rw_live, rfl⟩) ?_)
    refine VC.s rfl (RVs.callp rfl rfl rfl (fun _ => ⟨⟨rfl, rfl⟩, iBoxName _ _ hb_x_box⟩) ?_)
    refine VC.s rfl (RVs.move rfl rfl (fun _ => rfl) ?_)
    refine VC.s rfl (RVs.fieldAddr rfl FieldOf.h (by decide) rfl (fun hg => rfl) ?_)
    refine VC.s rfl (RVs.load rfl TyOf.h rfl (fun hg => ⟨hg, (get_prefix (hs4.pre) (Sep.at_ (i := 0) hs3 rfl)), rw_live, rfl⟩) ?_)
    refine VC.s rfl (RVs.callp rfl rfl rfl (fun hg => ⟨⟨rfl, (GF.conds_cons hg rfl)⟩, isUid _ _⟩) ?_)
    refine VC.s rfl (RVs.pick rfl rfl rfl rfl (fun hg => ⟨rfl, fun hh => pk_t hh rfl, fun _ => rfl⟩) ?_)
    refine VC.s rfl (RVs.move rfl rfl (fun _ => rfl) ?_)
    refine VC.s rfl (RVs.fieldAddr rfl FieldOf.h (by decide) rfl (fun hg => rfl) ?_)
    refine VC.s rfl (RVs.load rfl TyOf.h rfl (fun hg => ⟨hg, (get_prefix (hs4.pre) (Sep.at_ (i := 0) hs3 rfl)), rw_live, rfl⟩) ?_)
    refine VC.s rfl (RVs.len_slice rfl UnSl.h rfl (fun hg => hg) ?_)
    refine VC.s rfl (RVs.bin rfl rfl rfl rfl (fun hg => ⟨⟨hg, rfl⟩, rfl⟩) ?_)
    refine VC.s rfl (RVs.pick rfl rfl rfl rfl (fun hg => ⟨rfl, fun hh => pk_t hh rfl, fun _ => rfl⟩) ?_)
    refine VC.s rfl (RVs.move rfl rfl (fun _ => rfl) ?_)
    refine VC.s rfl (RVs.fieldAddr rfl FieldOf.h (by decide) rfl (fun hg => rfl) ?_)
    refine VC.s rfl (RVs.load rfl TyOf.h rfl (fun hg => ⟨hg, (get_prefix (hs4.pre) (Sep.at_ (i := 0) hs3 rfl)), rw_live, rfl⟩) ?_)
    refine VC.s rfl (RVs.callp rfl rfl rfl (fun hg => ⟨⟨rfl, (GF.conds_cons hg rfl)⟩, isMod _ _⟩) ?_)
    refine VC.s rfl (RVs.pick rfl rfl rfl rfl (fun hg => ⟨rfl, fun hh => pk_t hh rfl, fun _ => rfl⟩) ?_)
    refine VC.s rfl (RVs.assign rfl rfl (fun _ => rfl) ?_)
    refine VC.nil (k11 ⟨50, [(2, _)]⟩ _ ?_)
    refine CWp.ret (q _ _ _ (.cons (.tmp rfl) .nil) ?_).1
    exact ⟨by simp only [one, viewOk]; rw [all_end ho (by omega)]; exact congrArg Value.bool (so_fin _ _ _ _), (List.IsPrefix.trans hs3.pre (hs4.pre))⟩

theorem sViewOf (x : Box) (x_mails x_tombs : Value) (H : AH) (hS : kMail.S H x_mails x.mails) (hn : x.mails.length ≤ 1048576) : FWp Try.prog 56 [.agg #[.string (bs x.name), .int .i64 x.valid, .int .i64 x.next, .int .i64 x.mod, x_mails, x_tombs, .int .i64 x.horizon]] H (fun v' H' => ∃ v, v' = .agg #[.string (bs (viewOf x).box), .int .i64 (viewOf x).valid, v, .int .i64 (viewOf x).mod] ∧ FreshP (pVal kInt.slice [v] (viewOf x).uids) H H') := by
  have hSl := hS.lim
  unfold lim at hSl
  obtain ⟨aa, ca, rfl, hSc⟩ := hS.form
  refine FWp.enterK Try.func56 rfl (by decide +kernel) rfl rfl fun Q q => ?_
  have hs0 := Sep.nil (H := H)
  refine CWp.seqK fun Kk1 k1 => ?_
  refine CWp.regionW [1, 2] ?_
  refine VC.s rfl (RVs.box rfl TyOf.h rfl rfl rfl ?_)
  intro b1 H1 g1 l1 a1
  have hs1 := Sep.addB hs0 g1 l1 a1
  refine VC.s rfl (RVs.alloc ZeroOf.h TyOf.h rfl rfl ?_)
  intro b2 H2 g2 l2 a2
  have hs2 := Sep.addB hs1 g2 l2 a2
  refine VC.nil (k1 ⟨31, [(1, _), (2, _)]⟩ _ ?_)
  refine CWp.seqK fun Kk2 k2 => ?_
  refine CWp.regionW [1, 2, 3] ?_
  refine VC.s rfl (RVs.fieldAddr rfl FieldOf.h (by decide) rfl (fun _ => rfl) ?_)
  refine VC.s rfl (RVs.load rfl TyOf.h rfl (fun _ => ⟨rfl, (Sep.at_ (i := 1) hs2 rfl), rw_live, rfl⟩) ?_)
  refine VC.s rfl (RVs.fieldAddr rfl FieldOf.h (by decide) rfl (fun _ => rfl) ?_)
  refine VC.s rfl (RVs.load rfl TyOf.h rfl (fun _ => ⟨rfl, (Sep.at_ (i := 1) hs2 rfl), rw_live, rfl⟩) ?_)
  refine VC.s rfl (RVs.fieldAddr rfl FieldOf.h (by decide) rfl (fun _ => rfl) ?_)
  refine VC.s rfl (RVs.load rfl TyOf.h rfl (fun _ => ⟨rfl, (Sep.at_ (i := 1) hs2 rfl), rw_live, rfl⟩) ?_)
  refine VC.s rfl (RVs.build rfl ZeroOf.h rfl FieldsOk.h rfl (fun _ => rfl) ?_)
  refine VC.s rfl (RVs.alloc ZeroOf.h TyOf.h rfl rfl ?_)
  intro b3 H3 g3 l3 a3
  have hs3 := Sep.addB hs2 g3 l3 a3
  refine VC.s rfl (RVs.storeBN (i := 0) hs3 rfl rfl rfl TyOf.h rfl rfl rfl ⟨rfl, rfl⟩ rfl (Nat.le_of_ble_eq_true rfl) rfl ?_)
  intro H4 hs4
  have hs5 := Sep.addNil (k := kInt) (e := 3) hs4
  refine VC.nil (k2 ⟨31, [(1, _), (2, _), (3, _)]⟩ _ ?_)
  refine CWp.seqK fun Kk3 k3 => ?_
  refine CWp.seqK fun Kk4 k4 => ?_
  refine CWp.regionW [1, 2, 3, 4] ?_
  refine VC.s rfl (RVs.assign rfl rfl (fun _ => rfl) ?_)
  refine VC.nil (k4 ⟨31, [(1, _), (2, _), (3, _), (4, _)]⟩ _ ?_)
  refine CWp.block ?_
  refine CWp.loopK (fun n T H' => ∃ (i : Nat) (ao : Option Addr) (co : Nat), T = ⟨31, [(1, .pointer (some ⟨b1, 0, none⟩)), (2, .pointer (some ⟨b2, 0, none⟩)), (3, .pointer (some ⟨b3, 0, none⟩)), (4, .int .i64 (i : Int))]⟩ ∧ n = x.mails.length - i ∧ (i ≤ x.mails.length) ∧ Sep [] H H' [pBox b1 56 7 [.string (bs x.name), .int .i64 x.valid, .int .i64 x.next, .int .i64 x.mod, .slice aa x.mails.length ca, x_tombs, .int .i64 x.horizon], pBox b2 49 4 [.string ⟨#[]⟩, .int .i64 0, .slice none 0 0, .int .i64 0], pBox b3 49 4 [.string (bs x.name), .int .i64 x.valid, .slice ao ((x.mails.map (·.uid)).take i).length co, .int .i64 x.mod], pOwn kInt 3 (.slice ao ((x.mails.map (·.uid)).take i).length co) ((x.mails.map (·.uid)).take i)]) (n := x.mails.length) ⟨0, none, 0, rfl, by first | rfl | simp, by omega, (Sep.front (i := 3) (Sep.front (i := 2) (Sep.front (i := 1) (Sep.front (i := 0) hs5 rfl) rfl) rfl) rfl)⟩ ?_
  rintro n T Hl1 Kk5 k5 ⟨i, ao, co, rfl, hn1, hi, hs6⟩
  refine CWp.seqK fun Kk6 k6 => ?_
  refine CWp.seqK fun Kk7 k7 => ?_
  refine CWp.regionW [1, 2, 3, 4, 16] ?_
  refine VC.s rfl (RVs.move rfl rfl (fun _ => rfl) ?_)
  refine VC.s rfl (RVs.fieldAddr rfl FieldOf.h (by decide) rfl (fun _ => rfl) ?_)
  refine VC.s rfl (RVs.load rfl TyOf.h rfl (fun _ => ⟨rfl, (Sep.at_ (i := 0) hs6 rfl), rw_live, rfl⟩) ?_)
  refine VC.s rfl (RVs.len_slice rfl UnSl.h rfl (fun _ => rfl) ?_)
  refine VC.s rfl (RVs.bin rfl rfl rfl rfl (fun _ => ⟨⟨rfl, rfl⟩, rfl⟩) ?_)
  refine VC.nil (k7 ⟨31, [(1, _), (2, _), (3, _), (4, _), (16, _)]⟩ _ ?_)
  refine CWp.condV rfl (fun hc1 => ?_) (fun hc1 => ?_)
  · try simp at hc1
    refine CWp.skip ?_
    refine k6 _ _ ?_
    refine CWp.seqK fun Kk8 k8 => ?_
    refine CWp.block ?_
    refine CWp.regionDW [1, 2, 3, 4] [false, false, false, false, false, false, false, false, false, true, false, true] (by decide +kernel) ?_
    refine VC.s rfl (RVs.fieldAddr rfl FieldOf.h (by decide) rfl (fun _ => rfl) ?_)
    refine VC.s rfl (RVs.load rfl TyOf.h rfl (fun _ => ⟨rfl, (Sep.at_ (i := 2) hs6 rfl), rw_live, rfl⟩) ?_)
    refine VC.s rfl (RVs.fieldAddr rfl FieldOf.h (by decide) rfl (fun _ => rfl) ?_)
    refine VC.s rfl (RVs.load rfl TyOf.h rfl (fun _ => ⟨rfl, (Sep.at_ (i := 0) hs6 rfl), rw_live, rfl⟩) ?_)
    refine VC.s rfl (RVs.move rfl rfl (fun _ => rfl) ?_)
    refine VC.s rfl (RVs.indexS rfl (hS.mono (hle (hs6.pre))) rfl ElemOf.h rfl (fun _ => ⟨⟨rfl, rfl⟩, by omega, by omega⟩) ?_)
    intro id1 j1 u1 B1 e1
    obtain ⟨y1, hy1, e1⟩ := e1 rfl
    try simp only [Int.toNat_natCast] at hy1
    obtain ⟨rfl, hwy1⟩ := e1.r
    refine VC.s rfl (RVs.fieldAddr rfl FieldOf.h (by decide) rfl (fun _ => rfl) ?_)
    refine VC.s rfl (RVs.loadF (k := kMail) (f := 0) rfl TyOf.h rfl (fun _ => ⟨rfl, e1, by decide, rfl⟩) ?_)
    refine VC.s rfl (RVs.buildS ElemOf.h ZeroOf.h rfl rfl rfl (by decide) rfl rfl rfl ?_)
    intro b4 H5 g4 l4 a4
    have e2 := EP.mono (hle g4) e1
    have hs7 := Sep.grow hs6 g4
    refine VC.s rfl (RVs.appendZ (k := kInt) (zs := (x.mails.map (·.uid)).take (i + 1)) int_Flat (i := 3) hs7 rfl rfl rfl ElemOf.h ElOk.h UnSl.h rfl rfl rfl ⟨rfl, rfl⟩ (lit_S (k := kInt) (xs := [y1.uid]) a4 (Kd.Rs.one rfl) rfl (by decide)) ((take_snoc (by rw [List.getElem?_map, hy1]; rfl)).symm) (small_of (by simp; omega) (by decide)) ?_)
    intro ad1 cp1 H6 hcp1 hs8
    refine VC.s rfl (RVs.fieldAddr rfl FieldOf.h (by decide) rfl (fun _ => rfl) ?_)
    refine VC.s rfl (RVs.storeB (i := 2) hs8 rfl rfl rfl TyOf.h rfl rfl rfl ⟨rfl, rfl⟩ (Nat.le_of_ble_eq_true rfl) rfl ?_)
    intro H7 hs9
    refine VC.nil (k8 ⟨31, [(1, _), (2, _), (3, _), (4, _)]⟩ _ ?_)
    refine CWp.regionW [1, 2, 3, 4] ?_
    refine VC.s rfl (RVs.move rfl rfl (fun _ => rfl) ?_)
    refine VC.s rfl (RVs.arith (r := ((i + 1 : Nat) : Int)) rfl rfl rfl (by (try simp only [bl_bs]); first | exact wrap_in (by omega) | (rw [wrap_in (by omega)]; omega)) rfl (fun _ => ⟨⟨rfl, rfl⟩, rfl⟩) ?_)
    refine VC.s rfl (RVs.assign rfl rfl (fun _ => rfl) ?_)
    refine VC.nil (k5 _ ⟨31, [(1, _), (2, _), (3, _), (4, _)]⟩ _ ?_ ⟨i + 1, _, _, rfl, rfl, by omega, hs9⟩)
    omega
  · try simp at hc1
    refine CWp.exit ?_
    refine k3 _ _ ?_
    refine CWp.seqK fun Kk9 k9 => ?_
    refine CWp.regionW [2] ?_
    refine VC.s rfl (RVs.load_agg rfl TyOf.h rfl (fun _ => ⟨rfl, (Sep.at_ (i := 2) hs6 rfl), rw_live, Nat.le_of_ble_eq_true rfl, rfl⟩) ?_)
    refine VC.s rfl (RVs.storeBN (i := 1) hs6 rfl rfl rfl TyOf.h rfl rfl rfl ⟨rfl, rfl⟩ rfl (Nat.le_of_ble_eq_true rfl) rfl ?_)
    intro H8 hs10
    refine VC.nil (k9 ⟨31, [(2, _)]⟩ _ ?_)
    refine CWp.ret (q _ _ _ (.cons (.cells rfl (Ty.of TyOf.h) (Sep.at_ (i := 1) hs10 rfl) rw_live (Nat.le_of_ble_eq_true rfl)) .nil) ?_).1
    have hz := (Sep.fresh (i := 3) hs10 rfl)
    rw [show (x.mails.map (·.uid)).take i = x.mails.map (·.uid) from List.take_of_length_le (by rw [List.length_map]; omega)] at hz
    exact ⟨_, by simp only [one]; rw [show (x.mails.map (·.uid)).take i = x.mails.map (·.uid) from List.take_of_length_le (by rw [List.length_map]; omega)]; rfl, hz.slice⟩

end Go.Proofs.Ytaccaelocddakaa
