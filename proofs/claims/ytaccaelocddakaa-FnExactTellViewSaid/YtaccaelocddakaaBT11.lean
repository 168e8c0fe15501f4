/- The walk of the law of TellView. -/
import Derived.Test.YtaccaelocddakaaBT10
namespace Go.Proofs.Ytaccaelocddakaa
open Go Go.RowKit
set_option linter.unusedVariables false
set_option maxRecDepth 20000
variable [Tabs]

theorem law (x : View) (x_uids : Value) (y : Box) (y_mails y_tombs : Value) (H : AH) (hS_x_uids : kInt.S H x_uids x.uids) (hb_x_box : x.box.length ≤ lim) (hS_y_mails : kMail.S H y_mails y.mails) (hS_y_tombs : kTomb.S H y_tombs y.tombs) (hb_y_name : y.name.length ≤ lim) : FWp Try.prog 4 [.agg #[.string (bs x.box), .int .i64 x.valid, x_uids, .int .i64 x.mod], .agg #[.string (bs y.name), .int .i64 y.valid, .int .i64 y.next, .int .i64 y.mod, y_mails, y_tombs, .int .i64 y.horizon]] H (fun v' H' => v' = .bool true) := by
  refine FWp.enterK Try.func4 rfl (by decide +kernel) rfl rfl fun Q q => ?_
  have hs0 := Sep.nil (H := H)
  refine CWp.seqK fun Kk1 k1 => ?_
  refine CWp.regionW [2, 3] ?_
  refine VC.s rfl (RVs.box rfl TyOf.h rfl rfl rfl ?_)
  intro b1 H1 g1 l1 a1
  have hs1 := Sep.addB hs0 g1 l1 a1
  refine VC.s rfl (RVs.box rfl TyOf.h rfl rfl rfl ?_)
  intro b2 H2 g2 l2 a2
  have hs2 := Sep.addB hs1 g2 l2 a2
  refine VC.s rfl (RVs.assign rfl rfl (fun _ => rfl) ?_)
  refine VC.nil (k1 ⟨135, [(2, _), (3, _)]⟩ _ ?_)
  refine CWp.seqK fun Kk2 k2 => ?_
  refine CWp.regionW [2, 3, 5] ?_
  refine VC.s rfl (RVs.assign rfl rfl (fun _ => rfl) ?_)
  refine VC.nil (k2 ⟨135, [(2, _), (3, _), (5, _)]⟩ _ ?_)
  refine CWp.seqK fun Kk3 k3 => ?_
  refine CWp.regionW [2, 3, 5] ?_
  refine VC.s rfl (RVs.load_agg rfl TyOf.h rfl (fun _ => ⟨rfl, (Sep.at_ (i := 1) hs2 rfl), rw_live, Nat.le_of_ble_eq_true rfl, rfl⟩) ?_)
  refine VC.s rfl (RVs.move rfl rfl (fun _ => rfl) ?_)
  refine VC.s rfl (RVs.callp rfl rfl rfl (fun _ => ⟨⟨rfl, rfl⟩, szView _ _ _ _ (hS_x_uids.mono (hle (hs2.pre))) hb_x_box (by decide) (by decide)⟩) ?_)
  refine VC.s rfl (RVs.assign rfl rfl (fun _ => rfl) ?_)
  refine VC.nil (k3 ⟨135, [(2, _), (3, _), (5, _)]⟩ _ ?_)
  refine CWp.seqK fun Kk4 k4 => ?_
  refine CWp.seqK fun Kk5 k5 => ?_
  refine CWp.regionW [2, 3, 5, 21] ?_
  refine VC.s rfl (RVs.move rfl rfl (fun _ => rfl) ?_)
  refine VC.s rfl (RVs.bin rfl rfl rfl rfl (fun _ => ⟨⟨rfl, rfl⟩, rfl⟩) ?_)
  refine VC.nil (k5 ⟨135, [(2, _), (3, _), (5, _), (21, _)]⟩ _ ?_)
  refine CWp.condV rfl (fun hc1 => ?_) (fun hc1 => ?_)
  · skip
    refine CWp.seqK fun Kk6 k6 => ?_
    refine CWp.regionW [4] ?_
    refine VC.s rfl (RVs.assign rfl rfl (fun _ => rfl) ?_)
    refine VC.nil (k6 ⟨135, [(4, _)]⟩ _ ?_)
    refine CWp.ret (q _ _ _ (.cons (.tmp rfl) .nil) ?_).1
    rfl
  · have hnv0 := of_decide_eq_false hc1
    have hnv := szView_n hnv0
    refine CWp.skip ?_
    refine k4 _ _ ?_
    refine CWp.seqK fun Kk7 k7 => ?_
    refine CWp.regionW [2, 3, 5] ?_
    refine VC.s rfl (RVs.load_agg rfl TyOf.h rfl (fun _ => ⟨rfl, (Sep.at_ (i := 0) hs2 rfl), rw_live, Nat.le_of_ble_eq_true rfl, rfl⟩) ?_)
    refine VC.s rfl (RVs.move rfl rfl (fun _ => rfl) ?_)
    refine VC.s rfl (RVs.callp rfl rfl rfl (fun _ => ⟨⟨rfl, rfl⟩, szBox _ _ _ _ _ (hS_y_mails.mono (hle (hs2.pre))) (hS_y_tombs.mono (hle (hs2.pre))) hb_y_name (by omega) hnv.2⟩) ?_)
    refine VC.s rfl (RVs.assign rfl rfl (fun _ => rfl) ?_)
    refine VC.nil (k7 ⟨135, [(2, _), (3, _), (5, _)]⟩ _ ?_)
    refine CWp.seqK fun Kk8 k8 => ?_
    refine CWp.seqK fun Kk9 k9 => ?_
    refine CWp.regionW [2, 3, 26] ?_
    refine VC.s rfl (RVs.move rfl rfl (fun _ => rfl) ?_)
    refine VC.s rfl (RVs.bin rfl rfl rfl rfl (fun _ => ⟨⟨rfl, rfl⟩, rfl⟩) ?_)
    refine VC.nil (k9 ⟨135, [(2, _), (3, _), (26, _)]⟩ _ ?_)
    refine CWp.condV rfl (fun hc2 => ?_) (fun hc2 => ?_)
    · skip
      refine CWp.seqK fun Kk10 k10 => ?_
      refine CWp.regionW [4] ?_
      refine VC.s rfl (RVs.assign rfl rfl (fun _ => rfl) ?_)
      refine VC.nil (k10 ⟨135, [(4, _)]⟩ _ ?_)
      refine CWp.ret (q _ _ _ (.cons (.tmp rfl) .nil) ?_).1
      rfl
    · have hnb := szBox_nL hnv.2 (of_decide_eq_false hc2)
      have htl := tellView_len x y
      refine CWp.skip ?_
      refine k8 _ _ ?_
      refine CWp.seqK fun Kk11 k11 => ?_
      refine CWp.regionDW [2, 3, 6, 7] [false, false, false, false, false, false, false, false, false, true, false] (by decide +kernel) ?_
      refine VC.s rfl (RVs.load_agg rfl TyOf.h rfl (fun _ => ⟨rfl, (Sep.at_ (i := 1) hs2 rfl), rw_live, Nat.le_of_ble_eq_true rfl, rfl⟩) ?_)
      refine VC.s rfl (RVs.call rfl rfl rfl rfl ⟨rfl, rfl⟩ (toView _ _ _ (hS_x_uids.mono (hle (hs2.pre))) hnv.1) (.inr fun _ _ h => h.elim fun _ h => h.2.1) ?_)
      rintro v1 H3 ⟨vuA, rfl, f1⟩
      have g3 := (f1).1
      have hs3 := Sep.addP hs2 (f1)
      refine VC.s rfl (RVs.load_agg rfl TyOf.h rfl (fun _ => ⟨rfl, (Sep.at_ (i := 1) hs3 rfl), rw_live, Nat.le_of_ble_eq_true rfl, rfl⟩) ?_)
      refine VC.s rfl (RVs.call rfl rfl rfl rfl ⟨rfl, rfl⟩ (toBox _ _ _ _ (hS_y_mails.mono (hle (hs3.pre))) (hS_y_tombs.mono (hle (hs3.pre))) hnb.1 hnb.2) (.inr fun _ _ h => h.elim fun _ h => h.elim fun _ h => h.2.1) ?_)
      rintro v2 H4 ⟨vmA, vtA, rfl, f2⟩
      have g4 := (f2).1
      have hs4 := Sep.split (Sep.addP hs3 (f2))
      refine VC.s rfl (RVs.call rfl rfl rfl rfl ⟨rfl, rfl⟩ (sTellView _ _ _ _ _ _ (Sep.VS (i := 2) hs4 rfl) hb_x_box (Sep.VS (i := 1) hs4 rfl) (Sep.VS (i := 0) hs4 rfl) hb_y_name) (.inr fun _ _ h => h.elim fun _ h => h.elim fun _ h => h.2.1) ?_)
      rintro v3 H5 ⟨vw, ww, rfl, f3⟩
      have g5 := (f3).1
      have hs5 := Sep.split (Sep.addP hs4 (f3))
      refine VC.s rfl (RVs.move rfl rfl (fun _ => rfl) ?_)
      refine VC.s rfl (RVs.extract rfl rfl rfl (fun _ => rfl) ?_)
      refine VC.s rfl (RVs.extract rfl rfl rfl (fun _ => rfl) ?_)
      refine VC.s rfl (RVs.alloc ZeroOf.h TyOf.h rfl rfl ?_)
      intro b3 H6 g6 l3 a3
      have hs6 := Sep.addB hs5 g6 l3 a3
      refine VC.s rfl (RVs.storeBN (i := 0) hs6 rfl rfl rfl TyOf.h rfl rfl rfl ⟨rfl, rfl⟩ rfl (Nat.le_of_ble_eq_true rfl) (show List.all [_, _, _, _] oneCell = true from by simp only [List.all_cons, List.all_nil, ((Sep.VS (i := 2) hs6 rfl)).oc]; rfl) ?_)
      intro H7 hs7
      refine VC.s rfl (RVs.assign rfl rfl (fun _ => rfl) ?_)
      refine VC.nil (k11 ⟨135, [(2, _), (3, _), (6, _), (7, _)]⟩ _ ?_)
      refine CWp.seqK fun Kk12 k12 => ?_
      refine CWp.regionW [2, 3, 6, 7, 8] ?_
      refine VC.s rfl (RVs.load_agg rfl TyOf.h rfl (fun _ => ⟨rfl, (Sep.at_ (i := 7) hs7 rfl), rw_live, Nat.le_of_ble_eq_true rfl, rfl⟩) ?_)
      refine VC.s rfl (RVs.call rfl rfl rfl rfl ⟨rfl, rfl⟩ (toView _ _ _ (hS_x_uids.mono (hle (hs7.pre))) hnv.1) (.inr fun _ _ h => h.elim fun _ h => h.2.1) ?_)
      rintro v4 H8 ⟨vuB, rfl, f4⟩
      have g7 := (f4).1
      have hs8 := Sep.addP hs7 (f4)
      refine VC.s rfl (RVs.alloc ZeroOf.h TyOf.h rfl rfl ?_)
      intro b4 H9 g8 l4 a4
      have hs9 := Sep.addB hs8 g8 l4 a4
      refine VC.s rfl (RVs.storeBN (i := 0) hs9 rfl rfl rfl TyOf.h rfl rfl rfl ⟨rfl, rfl⟩ rfl (Nat.le_of_ble_eq_true rfl) (show List.all [_, _, _, _] oneCell = true from by simp only [List.all_cons, List.all_nil, ((Sep.VS (i := 1) hs9 rfl)).oc]; rfl) ?_)
      intro H10 hs10
      refine VC.nil (k12 ⟨135, [(2, _), (3, _), (6, _), (7, _), (8, _)]⟩ _ ?_)
      refine CWp.seqK fun Kk13 k13 => ?_
      refine CWp.regionW [2, 3, 6, 7, 8, 9] ?_
      refine VC.s rfl (RVs.load_agg rfl TyOf.h rfl (fun _ => ⟨rfl, (Sep.at_ (i := 8) hs10 rfl), rw_live, Nat.le_of_ble_eq_true rfl, rfl⟩) ?_)
      refine VC.s rfl (RVs.call rfl rfl rfl rfl ⟨rfl, rfl⟩ (toBox _ _ _ _ (hS_y_mails.mono (hle (hs10.pre))) (hS_y_tombs.mono (hle (hs10.pre))) hnb.1 hnb.2) (.inr fun _ _ h => h.elim fun _ h => h.elim fun _ h => h.2.1) ?_)
      rintro v5 H11 ⟨vmB, vtB, rfl, f5⟩
      have g9 := (f5).1
      have hs11 := Sep.split (Sep.addP hs10 (f5))
      refine VC.s rfl (RVs.alloc ZeroOf.h TyOf.h rfl rfl ?_)
      intro b5 H12 g10 l5 a5
      have hs12 := Sep.addB hs11 g10 l5 a5
      refine VC.s rfl (RVs.storeBN (i := 0) hs12 rfl rfl rfl TyOf.h rfl rfl rfl ⟨rfl, rfl⟩ rfl (Nat.le_of_ble_eq_true rfl) (show List.all [_, _, _, _, _, _, _] oneCell = true from by simp only [List.all_cons, List.all_nil, ((Sep.VS (i := 2) hs12 rfl)).oc, ((Sep.VS (i := 1) hs12 rfl)).oc]; rfl) ?_)
      intro H13 hs13
      refine VC.nil (k13 ⟨135, [(2, _), (3, _), (6, _), (7, _), (8, _), (9, _)]⟩ _ ?_)
      refine CWp.seqK fun Kk14 k14 => ?_
      refine CWp.regionW [2, 3, 6, 7, 8, 9, 10, 11] ?_
      refine VC.s rfl (RVs.load_agg rfl TyOf.h rfl (fun _ => ⟨rfl, (Sep.at_ (i := 3) hs13 rfl), rw_live, Nat.le_of_ble_eq_true rfl, rfl⟩) ?_)
      refine VC.s rfl (RVs.load_agg rfl TyOf.h rfl (fun _ => ⟨rfl, (Sep.at_ (i := 0) hs13 rfl), rw_live, Nat.le_of_ble_eq_true rfl, rfl⟩) ?_)
      refine VC.s rfl (RVs.call rfl rfl rfl rfl ⟨rfl, rfl⟩ (iTellView _ _ _ _ _ _ (Sep.VS (i := 4) hs13 rfl) hb_x_box (Sep.VS (i := 2) hs13 rfl) (Sep.VS (i := 1) hs13 rfl) hb_y_name) (.inr fun _ _ h => h.elim fun _ h => h.elim fun _ h => h.2.1) ?_)
      rintro v6 H14 ⟨vg, wg, rfl, f6⟩
      have g11 := (f6).1
      have hs14 := Sep.split (Sep.addP hs13 (f6))
      refine VC.s rfl (RVs.move rfl rfl (fun _ => rfl) ?_)
      refine VC.s rfl (RVs.extract rfl rfl rfl (fun _ => rfl) ?_)
      refine VC.s rfl (RVs.extract rfl rfl rfl (fun _ => rfl) ?_)
      refine VC.s rfl (RVs.alloc ZeroOf.h TyOf.h rfl rfl ?_)
      intro b6 H15 g12 l6 a6
      have hs15 := Sep.addB hs14 g12 l6 a6
      refine VC.s rfl (RVs.storeBN (i := 0) hs15 rfl rfl rfl TyOf.h rfl rfl rfl ⟨rfl, rfl⟩ rfl (Nat.le_of_ble_eq_true rfl) (show List.all [_, _, _, _] oneCell = true from by simp only [List.all_cons, List.all_nil, ((Sep.VS (i := 2) hs15 rfl)).oc]; rfl) ?_)
      intro H16 hs16
      refine VC.s rfl (RVs.assign rfl rfl (fun _ => rfl) ?_)
      refine VC.nil (k14 ⟨135, [(2, _), (3, _), (6, _), (7, _), (8, _), (9, _), (10, _), (11, _)]⟩ _ ?_)
      refine CWp.seqK fun Kk15 k15 => ?_
      refine CWp.seqK fun Kk16 k16 => ?_
      refine CWp.regionW [2, 3, 6, 7, 8, 9, 10, 11, 54] ?_
      refine VC.s rfl (RVs.load_agg rfl TyOf.h rfl (fun _ => ⟨rfl, (Sep.at_ (i := 0) hs16 rfl), rw_live, Nat.le_of_ble_eq_true rfl, rfl⟩) ?_)
      refine VC.s rfl (RVs.load_agg rfl TyOf.h rfl (fun _ => ⟨rfl, (Sep.at_ (i := 8) hs16 rfl), rw_live, Nat.le_of_ble_eq_true rfl, rfl⟩) ?_)
      refine VC.s rfl (RVs.callp rfl rfl rfl (fun _ => ⟨⟨rfl, rfl⟩, eqView _ _ _ _ _ (Sep.VS (i := 2) hs16 rfl) (Sep.VS (i := 10) hs16 rfl)⟩) ?_)
      refine VC.s rfl (RVs.not rfl rfl (fun _ => rfl) ?_)
      refine VC.s rfl (RVs.move rfl rfl (fun _ => rfl) ?_)
      refine VC.s rfl (RVs.move rfl rfl (fun hg => rfl) ?_)
      refine VC.s rfl (RVs.move rfl rfl (fun hg => rfl) ?_)
      refine VC.s rfl (RVs.callp rfl rfl rfl (fun hg => ⟨⟨rfl, (GF.conds_cons hg (GF.conds_cons hg rfl))⟩, eqLineS _ _ _ _ _ (Sep.VS (i := 1) hs16 rfl) (Sep.VS (i := 9) hs16 rfl)⟩) ?_)
      refine VC.s rfl (RVs.not rfl rfl (fun hg => hg) ?_)
      refine VC.s rfl (RVs.pick rfl rfl rfl rfl (fun hg => ⟨rfl, fun _ => rfl, fun hh => pk_f hh rfl⟩) ?_)
      refine VC.nil (k16 ⟨135, [(2, _), (3, _), (6, _), (7, _), (8, _), (9, _), (10, _), (11, _), (54, _)]⟩ _ ?_)
      refine CWp.condV rfl (fun hc3 => ?_) (fun hc3 => ?_)
      · simp at hc3
      · try simp at hc3
        refine CWp.skip ?_
        refine k15 _ _ ?_
        refine CWp.seqK fun Kk17 k17 => ?_
        refine CWp.seqK fun Kk18 k18 => ?_
        refine CWp.regionDW [2, 3, 6, 7, 8, 9, 10, 11, 59] [false, false, false, false, false] (by decide +kernel) ?_
        refine VC.s rfl (RVs.load_agg rfl TyOf.h rfl (fun _ => ⟨rfl, (Sep.at_ (i := 6) hs16 rfl), rw_live, Nat.le_of_ble_eq_true rfl, rfl⟩) ?_)
        refine VC.s rfl (RVs.load_agg rfl TyOf.h rfl (fun _ => ⟨rfl, (Sep.at_ (i := 15) hs16 rfl), rw_live, Nat.le_of_ble_eq_true rfl, rfl⟩) ?_)
        refine VC.s rfl (RVs.call rfl rfl rfl rfl ⟨rfl, rfl⟩ (toView _ _ _ (hS_x_uids.mono (hle (hs16.pre))) hnv.1) (.inr fun _ _ h => h.elim fun _ h => h.2.1) ?_)
        rintro v7 H17 ⟨vuC, rfl, f7⟩
        have g13 := (f7).1
        have hs17 := Sep.addP hs16 (f7)
        refine VC.s rfl (RVs.callp rfl rfl rfl (fun _ => ⟨⟨rfl, rfl⟩, eqView _ _ _ _ _ (Sep.VS (i := 8) hs17 rfl) (Sep.VS (i := 0) hs17 rfl)⟩) ?_)
        refine VC.s rfl (RVs.not rfl rfl (fun _ => rfl) ?_)
        refine VC.nil (k18 ⟨135, [(2, _), (3, _), (6, _), (7, _), (8, _), (9, _), (10, _), (11, _), (59, _)]⟩ _ ?_)
        refine CWp.condV rfl (fun hc4 => ?_) (fun hc4 => ?_)
        · simp at hc4
        · try simp at hc4
          refine CWp.skip ?_
          refine k17 _ _ ?_
          refine CWp.seqK fun Kk19 k19 => ?_
          refine CWp.seqK fun Kk20 k20 => ?_
          refine CWp.regionDW [2, 3, 6, 7, 8, 9, 10, 11, 64] [false, false, false, false, false] (by decide +kernel) ?_
          refine VC.s rfl (RVs.load_agg rfl TyOf.h rfl (fun _ => ⟨rfl, (Sep.at_ (i := 4) hs17 rfl), rw_live, Nat.le_of_ble_eq_true rfl, rfl⟩) ?_)
          refine VC.s rfl (RVs.load_agg rfl TyOf.h rfl (fun _ => ⟨rfl, (Sep.at_ (i := 15) hs17 rfl), rw_live, Nat.le_of_ble_eq_true rfl, rfl⟩) ?_)
          refine VC.s rfl (RVs.call rfl rfl rfl rfl ⟨rfl, rfl⟩ (toBox _ _ _ _ (hS_y_mails.mono (hle (hs17.pre))) (hS_y_tombs.mono (hle (hs17.pre))) hnb.1 hnb.2) (.inr fun _ _ h => h.elim fun _ h => h.elim fun _ h => h.2.1) ?_)
          rintro v8 H18 ⟨vmC, vtC, rfl, f8⟩
          have g14 := (f8).1
          have hs18 := Sep.split (Sep.addP hs17 (f8))
          refine VC.s rfl (RVs.callp rfl rfl rfl (fun _ => ⟨⟨rfl, rfl⟩, eqBox _ _ _ _ _ _ _ (Sep.VS (i := 8) hs18 rfl) (Sep.VS (i := 1) hs18 rfl) (Sep.VS (i := 7) hs18 rfl) (Sep.VS (i := 0) hs18 rfl)⟩) ?_)
          refine VC.s rfl (RVs.not rfl rfl (fun _ => rfl) ?_)
          refine VC.nil (k20 ⟨135, [(2, _), (3, _), (6, _), (7, _), (8, _), (9, _), (10, _), (11, _), (64, _)]⟩ _ ?_)
          refine CWp.condV rfl (fun hc5 => ?_) (fun hc5 => ?_)
          · simp at hc5
          · try simp at hc5
            refine CWp.skip ?_
            refine k19 _ _ ?_
            refine CWp.seqK fun Kk21 k21 => ?_
            refine CWp.regionW [2, 3, 6, 7, 8, 9, 10, 11, 12] ?_
            refine VC.s rfl (RVs.assign rfl rfl (fun _ => rfl) ?_)
            refine VC.nil (k21 ⟨135, [(2, _), (3, _), (6, _), (7, _), (8, _), (9, _), (10, _), (11, _), (12, _)]⟩ _ ?_)
            refine CWp.seqK fun Kk22 k22 => ?_
            refine CWp.regionW [2, 3, 6, 7, 9, 10, 11, 12] ?_
            refine VC.s rfl (RVs.load_agg rfl TyOf.h rfl (fun _ => ⟨rfl, (Sep.at_ (i := 9) hs18 rfl), rw_live, Nat.le_of_ble_eq_true rfl, rfl⟩) ?_)
            refine VC.s rfl (RVs.move rfl rfl (fun _ => rfl) ?_)
            obtain ⟨F1, fa1, fn1, fl1, ff1, fo1⟩ := Sep.apart (i := 10) hs18 rfl
            refine VC.s rfl (RVs.call rfl rfl rfl rfl ⟨rfl, rfl⟩ (markView _ _ _ _ _ fa1 fn1 (by decide) (by omega)) (.inl rfl) ?_)
            rintro v9 H19 ⟨rfl, ch1, F2, fq1, fd1, fs1⟩
            have hs19 := ff1 _ _ _ ch1 fq1 fd1 fs1
            refine VC.s rfl (RVs.assign rfl rfl (fun _ => rfl) ?_)
            refine VC.nil (k22 ⟨135, [(2, _), (3, _), (6, _), (7, _), (9, _), (10, _), (11, _), (12, _)]⟩ _ ?_)
            refine CWp.seqK fun Kk23 k23 => ?_
            refine CWp.regionW [2, 3, 6, 7, 10, 11, 12] ?_
            refine VC.s rfl (RVs.load_agg rfl TyOf.h rfl (fun _ => ⟨rfl, (Sep.at_ (i := 6) hs19 rfl), rw_live, Nat.le_of_ble_eq_true rfl, rfl⟩) ?_)
            refine VC.s rfl (RVs.move rfl rfl (fun _ => rfl) ?_)
            have hs20 := (Sep.join (Sep.front (i := 8) (Sep.front (i := 8) hs19 rfl) rfl))
            obtain ⟨F3, fa2, fn2, fl2, ff2, fo2⟩ := Sep.apart (i := 0) hs20 rfl
            refine VC.s rfl (RVs.call rfl rfl rfl rfl ⟨rfl, rfl⟩ (markBox _ _ _ _ _ _ fa2 fn2 (by omega) (by omega)) (.inl rfl) ?_)
            rintro v10 H20 ⟨rfl, ch2, pq, F4, fq2, fd2, fs2⟩
            have hs21 := ff2 _ _ _ ch2 fq2 fd2 fs2
            refine VC.s rfl (RVs.assign rfl rfl (fun _ => rfl) ?_)
            refine VC.nil (k23 ⟨135, [(2, _), (3, _), (6, _), (7, _), (10, _), (11, _), (12, _)]⟩ _ ?_)
            refine CWp.seqK fun Kk24 k24 => ?_
            refine CWp.seqK fun Kk25 k25 => ?_
            refine CWp.regionW [2, 3, 6, 7, 10, 11, 84] ?_
            refine VC.s rfl (RVs.move rfl rfl (fun _ => rfl) ?_)
            refine VC.s rfl (RVs.bin rfl rfl rfl rfl (fun _ => ⟨⟨rfl, rfl⟩, rfl⟩) ?_)
            refine VC.s rfl (RVs.move rfl rfl (fun _ => rfl) ?_)
            refine VC.s rfl (RVs.load_agg rfl TyOf.h rfl (fun hg => ⟨rfl, (Sep.at_ (i := 4) hs21 rfl), rw_live, Nat.le_of_ble_eq_true rfl, rfl⟩) ?_)
            refine VC.s rfl (RVs.load_agg rfl TyOf.h rfl (fun hg => ⟨rfl, (Sep.at_ (i := 10) hs21 rfl), rw_live, Nat.le_of_ble_eq_true rfl, rfl⟩) ?_)
            refine VC.s rfl (RVs.callp rfl rfl rfl (fun hg => ⟨⟨rfl, (GF.conds_cons hg (GF.conds_cons hg rfl))⟩, eqView _ _ _ _ _ (Sep.VS (i := 6) hs21 rfl) (Sep.VS (i := 12) hs21 rfl)⟩) ?_)
            refine VC.s rfl (RVs.not rfl rfl (fun hg => hg) ?_)
            refine VC.s rfl (RVs.pick rfl rfl rfl rfl (fun hg => ⟨rfl, fun _ => rfl, fun hh => pk_f hh rfl⟩) ?_)
            refine VC.s rfl (RVs.move rfl rfl (fun _ => rfl) ?_)
            refine VC.s rfl (RVs.move rfl rfl (fun hg => rfl) ?_)
            refine VC.s rfl (RVs.move rfl rfl (fun hg => rfl) ?_)
            refine VC.s rfl (RVs.callp rfl rfl rfl (fun hg => ⟨⟨rfl, (GF.conds_cons hg (GF.conds_cons hg rfl))⟩, eqLineS _ _ _ _ _ (Sep.VS (i := 5) hs21 rfl) (Sep.VS (i := 11) hs21 rfl)⟩) ?_)
            refine VC.s rfl (RVs.not rfl rfl (fun hg => hg) ?_)
            refine VC.s rfl (RVs.pick rfl rfl rfl rfl (fun hg => ⟨rfl, fun _ => rfl, fun hh => pk_f hh rfl⟩) ?_)
            refine VC.nil (k25 ⟨135, [(2, _), (3, _), (6, _), (7, _), (10, _), (11, _), (84, _)]⟩ _ ?_)
            refine CWp.condV rfl (fun hc6 => ?_) (fun hc6 => ?_)
            · simp at hc6
              omega
            · skip
              refine CWp.skip ?_
              refine k24 _ _ ?_
              refine CWp.seqK fun Kk26 k26 => ?_
              refine CWp.regionW [2, 3, 6, 7, 10, 11, 13] ?_
              refine VC.s rfl (RVs.assign rfl rfl (fun _ => rfl) ?_)
              refine VC.nil (k26 ⟨135, [(2, _), (3, _), (6, _), (7, _), (10, _), (11, _), (13, _)]⟩ _ ?_)
              refine CWp.seqK fun Kk27 k27 => ?_
              refine CWp.regionW [2, 3, 6, 7, 10, 11, 13] ?_
              refine VC.s rfl (RVs.load_agg rfl TyOf.h rfl (fun _ => ⟨rfl, (Sep.at_ (i := 4) hs21 rfl), rw_live, Nat.le_of_ble_eq_true rfl, rfl⟩) ?_)
              refine VC.s rfl (RVs.move rfl rfl (fun _ => rfl) ?_)
              obtain ⟨F5, fa3, fn3, fl3, ff3, fo3⟩ := Sep.apart (i := 6) hs21 rfl
              refine VC.s rfl (RVs.call rfl rfl rfl rfl ⟨rfl, rfl⟩ (markView _ _ _ _ _ fa3 fn3 (by decide) (by omega)) (.inl rfl) ?_)
              rintro v11 H21 ⟨rfl, ch3, F6, fq3, fd3, fs3⟩
              have hs22 := ff3 _ _ _ ch3 fq3 fd3 fs3
              refine VC.s rfl (RVs.assign rfl rfl (fun _ => rfl) ?_)
              refine VC.nil (k27 ⟨135, [(2, _), (3, _), (6, _), (7, _), (10, _), (11, _), (13, _)]⟩ _ ?_)
              refine CWp.seqK fun Kk28 k28 => ?_
              refine CWp.regionW [2, 3, 6, 7, 10, 11, 13] ?_
              refine VC.s rfl (RVs.move rfl rfl (fun _ => rfl) ?_)
              refine VC.s rfl (RVs.move rfl rfl (fun _ => rfl) ?_)
              obtain ⟨F7, fa4, fn4, fl4, ff4, fo4⟩ := Sep.apart (i := 5) hs22 rfl
              refine VC.s rfl (RVs.call rfl rfl rfl rfl ⟨rfl, rfl⟩ (markLineS _ _ _ _ _ fa4 fn4 (by omega) (by omega)) (.inl rfl) ?_)
              rintro v12 H22 ⟨rfl, ch4, F8, fq4, fd4, fs4⟩
              have hs23 := ff4 _ _ _ ch4 fq4 fd4 fs4
              refine VC.s rfl (RVs.assign rfl rfl (fun _ => rfl) ?_)
              refine VC.nil (k28 ⟨135, [(2, _), (3, _), (6, _), (7, _), (10, _), (11, _), (13, _)]⟩ _ ?_)
              refine CWp.seqK fun Kk29 k29 => ?_
              refine CWp.regionW [2, 3, 6, 7, 10, 11, 13, 14] ?_
              refine VC.s rfl (RVs.assign rfl rfl (fun _ => rfl) ?_)
              refine VC.nil (k29 ⟨135, [(2, _), (3, _), (6, _), (7, _), (10, _), (11, _), (13, _), (14, _)]⟩ _ ?_)
              refine CWp.seqK fun Kk30 k30 => ?_
              refine CWp.regionW [2, 3, 6, 7, 10, 11, 13, 14] ?_
              refine VC.s rfl (RVs.load_agg rfl TyOf.h rfl (fun _ => ⟨rfl, (Sep.at_ (i := 4) hs23 rfl), rw_live, Nat.le_of_ble_eq_true rfl, rfl⟩) ?_)
              refine VC.s rfl (RVs.move rfl rfl (fun _ => rfl) ?_)
              refine VC.s rfl (RVs.callp rfl rfl rfl (fun _ => ⟨⟨rfl, rfl⟩, heldView _ _ _ _ _ (Sep.VS (i := 6) hs23 rfl) (by simp only [marks_len']) (by decide) (by simp only [marks_len']; omega)⟩) ?_)
              refine VC.s rfl (RVs.assign rfl rfl (fun _ => rfl) ?_)
              refine VC.nil (k30 ⟨135, [(2, _), (3, _), (6, _), (7, _), (10, _), (11, _), (13, _), (14, _)]⟩ _ ?_)
              refine CWp.seqK fun Kk31 k31 => ?_
              refine CWp.seqK fun Kk32 k32 => ?_
              refine CWp.regionW [2, 3, 6, 7, 10, 11, 13, 14, 95] ?_
              refine VC.s rfl (RVs.move rfl rfl (fun _ => rfl) ?_)
              refine VC.s rfl (RVs.bin rfl rfl rfl rfl (fun _ => ⟨⟨rfl, rfl⟩, rfl⟩) ?_)
              refine VC.nil (k32 ⟨135, [(2, _), (3, _), (6, _), (7, _), (10, _), (11, _), (13, _), (14, _), (95, _)]⟩ _ ?_)
              refine CWp.condV rfl (fun hc7 => ?_) (fun hc7 => ?_)
              · first | (simp [marks_len'] at hc7; done) | (simp [marks_len'] at hc7; omega)
              · skip
                refine CWp.skip ?_
                refine k31 _ _ ?_
                refine CWp.seqK fun Kk33 k33 => ?_
                refine CWp.regionW [2, 3, 6, 7, 10, 11, 13, 14] ?_
                refine VC.s rfl (RVs.move rfl rfl (fun _ => rfl) ?_)
                refine VC.s rfl (RVs.move rfl rfl (fun _ => rfl) ?_)
                refine VC.s rfl (RVs.callp rfl rfl rfl (fun _ => ⟨⟨rfl, rfl⟩, heldLineS _ _ _ _ (Sep.VS (i := 5) hs23 rfl) (by simp only [marks_len']) (by simp only [marks_len']; omega) (by simp only [marks_len']; omega)⟩) ?_)
                refine VC.s rfl (RVs.assign rfl rfl (fun _ => rfl) ?_)
                refine VC.nil (k33 ⟨135, [(2, _), (3, _), (6, _), (7, _), (10, _), (11, _), (13, _), (14, _)]⟩ _ ?_)
                refine CWp.seqK fun Kk34 k34 => ?_
                refine CWp.seqK fun Kk35 k35 => ?_
                refine CWp.regionW [2, 3, 6, 7, 10, 11, 13, 14, 100] ?_
                refine VC.s rfl (RVs.move rfl rfl (fun _ => rfl) ?_)
                refine VC.s rfl (RVs.bin rfl rfl rfl rfl (fun _ => ⟨⟨rfl, rfl⟩, rfl⟩) ?_)
                refine VC.nil (k35 ⟨135, [(2, _), (3, _), (6, _), (7, _), (10, _), (11, _), (13, _), (14, _), (100, _)]⟩ _ ?_)
                refine CWp.condV rfl (fun hc8 => ?_) (fun hc8 => ?_)
                · first | (simp [marks_len'] at hc8; done) | (simp [marks_len'] at hc8; omega)
                · skip
                  refine CWp.skip ?_
                  refine k34 _ _ ?_
                  refine CWp.seqK fun Kk36 k36 => ?_
                  refine CWp.seqK fun Kk37 k37 => ?_
                  refine CWp.regionW [2, 3, 6, 7, 10, 11, 13, 103] ?_
                  refine VC.s rfl (RVs.move rfl rfl (fun _ => rfl) ?_)
                  refine VC.s rfl (RVs.move rfl rfl (fun _ => rfl) ?_)
                  refine VC.s rfl (RVs.bin rfl rfl rfl rfl (fun _ => ⟨⟨rfl, rfl⟩, rfl⟩) ?_)
                  refine VC.nil (k37 ⟨135, [(2, _), (3, _), (6, _), (7, _), (10, _), (11, _), (13, _), (103, _)]⟩ _ ?_)
                  refine CWp.condV rfl (fun hc9 => ?_) (fun hc9 => ?_)
                  · first | (simp [marks_len'] at hc9; done) | (simp [marks_len'] at hc9; omega)
                  · skip
                    refine CWp.skip ?_
                    refine k36 _ _ ?_
                    refine CWp.seqK fun Kk38 k38 => ?_
                    refine CWp.regionDW [6, 7, 10, 11, 13, 15, 16] [false, false, false, false, false, false, false, false, false, true, false] (by decide +kernel) ?_
                    refine VC.s rfl (RVs.load_agg rfl TyOf.h rfl (fun _ => ⟨rfl, (Sep.at_ (i := 17) hs23 rfl), rw_live, Nat.le_of_ble_eq_true rfl, rfl⟩) ?_)
                    refine VC.s rfl (RVs.call rfl rfl rfl rfl ⟨rfl, rfl⟩ (toView _ _ _ (hS_x_uids.mono (hle (hs23.pre))) hnv.1) (.inr fun _ _ h => h.elim fun _ h => h.2.1) ?_)
                    rintro v13 H23 ⟨vuD, rfl, f9⟩
                    have g15 := (f9).1
                    have hs24 := Sep.addP hs23 (f9)
                    refine VC.s rfl (RVs.load_agg rfl TyOf.h rfl (fun _ => ⟨rfl, (Sep.at_ (i := 17) hs24 rfl), rw_live, Nat.le_of_ble_eq_true rfl, rfl⟩) ?_)
                    refine VC.s rfl (RVs.call rfl rfl rfl rfl ⟨rfl, rfl⟩ (toBox _ _ _ _ (hS_y_mails.mono (hle (hs24.pre))) (hS_y_tombs.mono (hle (hs24.pre))) hnb.1 hnb.2) (.inr fun _ _ h => h.elim fun _ h => h.elim fun _ h => h.2.1) ?_)
                    rintro v14 H24 ⟨vmD, vtD, rfl, f10⟩
                    have g16 := (f10).1
                    have hs25 := Sep.split (Sep.addP hs24 (f10))
                    refine VC.s rfl (RVs.call rfl rfl rfl rfl ⟨rfl, rfl⟩ (iTellView _ _ _ _ _ _ (Sep.VS (i := 2) hs25 rfl) hb_x_box (Sep.VS (i := 1) hs25 rfl) (Sep.VS (i := 0) hs25 rfl) hb_y_name) (.inr fun _ _ h => h.elim fun _ h => h.elim fun _ h => h.2.1) ?_)
                    rintro v15 H25 ⟨vh, wh, rfl, f11⟩
                    have g17 := (f11).1
                    have hs26 := Sep.split (Sep.addP hs25 (f11))
                    refine VC.s rfl (RVs.move rfl rfl (fun _ => rfl) ?_)
                    refine VC.s rfl (RVs.extract rfl rfl rfl (fun _ => rfl) ?_)
                    refine VC.s rfl (RVs.extract rfl rfl rfl (fun _ => rfl) ?_)
                    refine VC.s rfl (RVs.alloc ZeroOf.h TyOf.h rfl rfl ?_)
                    intro b7 H26 g18 l7 a7
                    have hs27 := Sep.addB hs26 g18 l7 a7
                    refine VC.s rfl (RVs.storeBN (i := 0) hs27 rfl rfl rfl TyOf.h rfl rfl rfl ⟨rfl, rfl⟩ rfl (Nat.le_of_ble_eq_true rfl) (show List.all [_, _, _, _] oneCell = true from by simp only [List.all_cons, List.all_nil, ((Sep.VS (i := 2) hs27 rfl)).oc]; rfl) ?_)
                    intro H27 hs28
                    refine VC.s rfl (RVs.assign rfl rfl (fun _ => rfl) ?_)
                    refine VC.nil (k38 ⟨135, [(6, _), (7, _), (10, _), (11, _), (13, _), (15, _), (16, _)]⟩ _ ?_)
                    refine CWp.seqK fun Kk39 k39 => ?_
                    refine CWp.seqK fun Kk40 k40 => ?_
                    refine CWp.regionW [10, 11, 13, 121] ?_
                    refine VC.s rfl (RVs.load_agg rfl TyOf.h rfl (fun _ => ⟨rfl, (Sep.at_ (i := 0) hs28 rfl), rw_live, Nat.le_of_ble_eq_true rfl, rfl⟩) ?_)
                    refine VC.s rfl (RVs.load_agg rfl TyOf.h rfl (fun _ => ⟨rfl, (Sep.at_ (i := 16) hs28 rfl), rw_live, Nat.le_of_ble_eq_true rfl, rfl⟩) ?_)
                    refine VC.s rfl (RVs.callp rfl rfl rfl (fun _ => ⟨⟨rfl, rfl⟩, eqView _ _ _ _ _ (Sep.VS (i := 2) hs28 rfl) (Sep.VS (i := 18) hs28 rfl)⟩) ?_)
                    refine VC.s rfl (RVs.not rfl rfl (fun _ => rfl) ?_)
                    refine VC.s rfl (RVs.move rfl rfl (fun _ => rfl) ?_)
                    refine VC.s rfl (RVs.move rfl rfl (fun hg => rfl) ?_)
                    refine VC.s rfl (RVs.move rfl rfl (fun hg => rfl) ?_)
                    refine VC.s rfl (RVs.callp rfl rfl rfl (fun hg => ⟨⟨rfl, (GF.conds_cons hg (GF.conds_cons hg rfl))⟩, eqLineS _ _ _ _ _ (Sep.VS (i := 1) hs28 rfl) (Sep.VS (i := 17) hs28 rfl)⟩) ?_)
                    refine VC.s rfl (RVs.not rfl rfl (fun hg => hg) ?_)
                    refine VC.s rfl (RVs.pick rfl rfl rfl rfl (fun hg => ⟨rfl, fun _ => rfl, fun hh => pk_f hh rfl⟩) ?_)
                    refine VC.nil (k40 ⟨135, [(10, _), (11, _), (13, _), (121, _)]⟩ _ ?_)
                    refine CWp.condV rfl (fun hc10 => ?_) (fun hc10 => ?_)
                    · first | (simp [marks_len'] at hc10; done) | (simp [marks_len'] at hc10; omega)
                    · skip
                      refine CWp.skip ?_
                      refine k39 _ _ ?_
                      refine CWp.seqK fun Kk41 k41 => ?_
                      refine CWp.regionW [10, 11, 13, 14] ?_
                      refine VC.s rfl (RVs.assign rfl rfl (fun _ => rfl) ?_)
                      refine VC.nil (k41 ⟨135, [(10, _), (11, _), (13, _), (14, _)]⟩ _ ?_)
                      refine CWp.seqK fun Kk42 k42 => ?_
                      refine CWp.regionW [11, 13, 14] ?_
                      refine VC.s rfl (RVs.load_agg rfl TyOf.h rfl (fun _ => ⟨rfl, (Sep.at_ (i := 10) hs28 rfl), rw_live, Nat.le_of_ble_eq_true rfl, rfl⟩) ?_)
                      refine VC.s rfl (RVs.move rfl rfl (fun _ => rfl) ?_)
                      refine VC.s rfl (RVs.callp rfl rfl rfl (fun _ => ⟨⟨rfl, rfl⟩, heldView _ _ _ _ _ (Sep.VS (i := 12) hs28 rfl) (by simp only [marks_len']) (by decide) (by simp only [marks_len']; omega)⟩) ?_)
                      refine VC.s rfl (RVs.assign rfl rfl (fun _ => rfl) ?_)
                      refine VC.nil (k42 ⟨135, [(11, _), (13, _), (14, _)]⟩ _ ?_)
                      refine CWp.seqK fun Kk43 k43 => ?_
                      refine CWp.seqK fun Kk44 k44 => ?_
                      refine CWp.regionW [11, 13, 14, 126] ?_
                      refine VC.s rfl (RVs.move rfl rfl (fun _ => rfl) ?_)
                      refine VC.s rfl (RVs.bin rfl rfl rfl rfl (fun _ => ⟨⟨rfl, rfl⟩, rfl⟩) ?_)
                      refine VC.nil (k44 ⟨135, [(11, _), (13, _), (14, _), (126, _)]⟩ _ ?_)
                      refine CWp.condV rfl (fun hc11 => ?_) (fun hc11 => ?_)
                      · first | (simp [marks_len'] at hc11; done) | (simp [marks_len'] at hc11; omega)
                      · skip
                        refine CWp.skip ?_
                        refine k43 _ _ ?_
                        refine CWp.seqK fun Kk45 k45 => ?_
                        refine CWp.regionW [13, 14] ?_
                        refine VC.s rfl (RVs.move rfl rfl (fun _ => rfl) ?_)
                        refine VC.s rfl (RVs.move rfl rfl (fun _ => rfl) ?_)
                        refine VC.s rfl (RVs.callp rfl rfl rfl (fun _ => ⟨⟨rfl, rfl⟩, heldLineS _ _ _ _ (Sep.VS (i := 11) hs28 rfl) (by simp only [marks_len']) (by simp only [marks_len']; omega) (by simp only [marks_len']; omega)⟩) ?_)
                        refine VC.s rfl (RVs.assign rfl rfl (fun _ => rfl) ?_)
                        refine VC.nil (k45 ⟨135, [(13, _), (14, _)]⟩ _ ?_)
                        refine CWp.seqK fun Kk46 k46 => ?_
                        refine CWp.seqK fun Kk47 k47 => ?_
                        refine CWp.regionW [13, 14, 131] ?_
                        refine VC.s rfl (RVs.move rfl rfl (fun _ => rfl) ?_)
                        refine VC.s rfl (RVs.bin rfl rfl rfl rfl (fun _ => ⟨⟨rfl, rfl⟩, rfl⟩) ?_)
                        refine VC.nil (k47 ⟨135, [(13, _), (14, _), (131, _)]⟩ _ ?_)
                        refine CWp.condV rfl (fun hc12 => ?_) (fun hc12 => ?_)
                        · first | (simp [marks_len'] at hc12; done) | (simp [marks_len'] at hc12; omega)
                        · skip
                          refine CWp.skip ?_
                          refine k46 _ _ ?_
                          refine CWp.seqK fun Kk48 k48 => ?_
                          refine CWp.seqK fun Kk49 k49 => ?_
                          refine CWp.regionW [134] ?_
                          refine VC.s rfl (RVs.move rfl rfl (fun _ => rfl) ?_)
                          refine VC.s rfl (RVs.move rfl rfl (fun _ => rfl) ?_)
                          refine VC.s rfl (RVs.bin rfl rfl rfl rfl (fun _ => ⟨⟨rfl, rfl⟩, rfl⟩) ?_)
                          refine VC.nil (k49 ⟨135, [(134, _)]⟩ _ ?_)
                          refine CWp.condV rfl (fun hc13 => ?_) (fun hc13 => ?_)
                          · first | (simp [marks_len'] at hc13; done) | (simp [marks_len'] at hc13; omega)
                          · skip
                            refine CWp.skip ?_
                            refine k48 _ _ ?_
                            refine CWp.seqK fun Kk50 k50 => ?_
                            refine CWp.regionW [4] ?_
                            refine VC.s rfl (RVs.assign rfl rfl (fun _ => rfl) ?_)
                            refine VC.nil (k50 ⟨135, [(4, _)]⟩ _ ?_)
                            refine CWp.ret (q _ _ _ (.cons (.tmp rfl) .nil) ?_).1
                            rfl

end Go.Proofs.Ytaccaelocddakaa
