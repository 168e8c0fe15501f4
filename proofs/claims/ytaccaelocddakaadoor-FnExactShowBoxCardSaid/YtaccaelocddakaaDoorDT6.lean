/- The walk of the law of ShowBox. -/
import Derived.Test.YtaccaelocddakaaDoorDT5
import Derived.Test.YtaccaelocddakaaDoorDT2
namespace Go.Proofs.YtaccaelocddakaaDoor
open Go Go.RowKit
set_option linter.unusedVariables false
set_option maxRecDepth 20000

theorem law (x : Box) (x_mails x_tombs : Value) (H : AH) (hS_x_mails : kMail.S H x_mails x.mails) (hS_x_tombs : kTomb.S H x_tombs x.tombs) (hb_x_name : x.name.length ≤ lim) : FWp Tryd.prog 3 [.agg #[.string (bs x.name), .int .i64 x.valid, .int .i64 x.next, .int .i64 x.mod, x_mails, x_tombs, .int .i64 x.horizon]] H (fun v' H' => v' = .bool true) := by
  refine FWp.enterK Tryd.func3 rfl (by decide +kernel) rfl rfl fun Q q => ?_
  have hs0 := Sep.nil (H := H)
  refine CWp.seqK fun Kk1 k1 => ?_
  refine CWp.regionW [1] ?_
  refine VC.s rfl (RVs.box rfl TyOf.h rfl rfl rfl ?_)
  intro b1 H1 g1 l1 a1
  have hs1 := Sep.addB hs0 g1 l1 a1
  refine VC.s rfl (RVs.assign rfl rfl (fun _ => rfl) ?_)
  refine VC.nil (k1 ⟨27, [(1, _)]⟩ _ ?_)
  refine CWp.seqK fun Kk2 k2 => ?_
  refine CWp.regionW [1, 3] ?_
  refine VC.s rfl (RVs.assign rfl rfl (fun _ => rfl) ?_)
  refine VC.nil (k2 ⟨27, [(1, _), (3, _)]⟩ _ ?_)
  refine CWp.seqK fun Kk3 k3 => ?_
  refine CWp.regionW [1, 3] ?_
  refine VC.s rfl (RVs.load_agg rfl TyOf.h rfl (fun _ => ⟨rfl, (Sep.at_ (i := 0) hs1 rfl), rw_live, Nat.le_of_ble_eq_true rfl, rfl⟩) ?_)
  refine VC.s rfl (RVs.move rfl rfl (fun _ => rfl) ?_)
  refine VC.s rfl (RVs.callp rfl rfl rfl (fun _ => ⟨⟨rfl, rfl⟩, szBox _ _ _ _ _ (hS_x_mails.mono (hle (hs1.pre))) (hS_x_tombs.mono (hle (hs1.pre))) hb_x_name (by decide) (by decide)⟩) ?_)
  refine VC.s rfl (RVs.assign rfl rfl (fun _ => rfl) ?_)
  refine VC.nil (k3 ⟨27, [(1, _), (3, _)]⟩ _ ?_)
  refine CWp.seqK fun Kk4 k4 => ?_
  refine CWp.seqK fun Kk5 k5 => ?_
  refine CWp.regionW [1, 11] ?_
  refine VC.s rfl (RVs.move rfl rfl (fun _ => rfl) ?_)
  refine VC.s rfl (RVs.bin rfl rfl rfl rfl (fun _ => ⟨⟨rfl, rfl⟩, rfl⟩) ?_)
  refine VC.nil (k5 ⟨27, [(1, _), (11, _)]⟩ _ ?_)
  refine CWp.condV rfl (fun hc1 => ?_) (fun hc1 => ?_)
  · skip
    refine CWp.seqK fun Kk6 k6 => ?_
    refine CWp.regionW [2] ?_
    refine VC.s rfl (RVs.assign rfl rfl (fun _ => rfl) ?_)
    refine VC.nil (k6 ⟨27, [(2, _)]⟩ _ ?_)
    refine CWp.ret (q _ _ _ (.cons (.tmp rfl) .nil) ?_).1
    rfl
  · have hn := szBox_n (of_decide_eq_false hc1)
    refine CWp.skip ?_
    refine k4 _ _ ?_
    refine CWp.seqK fun Kk7 k7 => ?_
    refine CWp.regionW [1, 4] ?_
    refine VC.s rfl (RVs.load_agg rfl TyOf.h rfl (fun _ => ⟨rfl, (Sep.at_ (i := 0) hs1 rfl), rw_live, Nat.le_of_ble_eq_true rfl, rfl⟩) ?_)
    refine VC.s rfl (RVs.call rfl rfl rfl rfl ⟨rfl, rfl⟩ (toBox _ _ _ _ (hS_x_mails.mono (hle (hs1.pre))) (hS_x_tombs.mono (hle (hs1.pre))) hn.1 hn.2) (.inr fun _ _ h => h.elim fun _ h => h.elim fun _ h => h.2.1) ?_)
    rintro v1 H2 ⟨vA, wA, rfl, f1⟩
    have g2 := (f1).1
    have hs2 := Sep.split (Sep.addP hs1 (f1))
    refine VC.s rfl (RVs.callp rfl rfl rfl (fun _ => ⟨⟨rfl, rfl⟩, sShowBox _ _ _ _ (Sep.VS (i := 1) hs2 rfl) (Sep.VS (i := 0) hs2 rfl) hb_x_name⟩) ?_)
    refine VC.s rfl (RVs.assign rfl rfl (fun _ => rfl) ?_)
    refine VC.nil (k7 ⟨27, [(1, _), (4, _)]⟩ _ ?_)
    refine CWp.seqK fun Kk8 k8 => ?_
    refine CWp.regionW [1, 4, 5] ?_
    refine VC.s rfl (RVs.load_agg rfl TyOf.h rfl (fun _ => ⟨rfl, (Sep.at_ (i := 2) hs2 rfl), rw_live, Nat.le_of_ble_eq_true rfl, rfl⟩) ?_)
    refine VC.s rfl (RVs.call rfl rfl rfl rfl ⟨rfl, rfl⟩ (toBox _ _ _ _ (hS_x_mails.mono (hle (hs2.pre))) (hS_x_tombs.mono (hle (hs2.pre))) hn.1 hn.2) (.inr fun _ _ h => h.elim fun _ h => h.elim fun _ h => h.2.1) ?_)
    rintro v2 H3 ⟨vB, wB, rfl, f2⟩
    have g3 := (f2).1
    have hs3 := Sep.split (Sep.addP hs2 (f2))
    refine VC.s rfl (RVs.alloc ZeroOf.h TyOf.h rfl rfl ?_)
    intro b2 H4 g4 l2 a2
    have hs4 := Sep.addB hs3 g4 l2 a2
    refine VC.s rfl (RVs.storeBN (i := 0) hs4 rfl rfl rfl TyOf.h rfl rfl rfl ⟨rfl, rfl⟩ rfl (Nat.le_of_ble_eq_true rfl) (show List.all [_, _, _, _, _, _, _] oneCell = true from by simp only [List.all_cons, List.all_nil, ((Sep.VS (i := 2) hs4 rfl)).oc, ((Sep.VS (i := 1) hs4 rfl)).oc]; rfl) ?_)
    intro H5 hs5
    refine VC.nil (k8 ⟨27, [(1, _), (4, _), (5, _)]⟩ _ ?_)
    refine CWp.seqK fun Kk9 k9 => ?_
    refine CWp.regionW [1, 4, 5, 6] ?_
    refine VC.s rfl (RVs.load_agg rfl TyOf.h rfl (fun _ => ⟨rfl, (Sep.at_ (i := 0) hs5 rfl), rw_live, Nat.le_of_ble_eq_true rfl, rfl⟩) ?_)
    refine VC.s rfl (RVs.callp rfl rfl rfl (fun _ => ⟨⟨rfl, rfl⟩, iShowBox _ _ _ _ (Sep.VS (i := 2) hs5 rfl) (Sep.VS (i := 1) hs5 rfl) hb_x_name⟩) ?_)
    refine VC.s rfl (RVs.assign rfl rfl (fun _ => rfl) ?_)
    refine VC.nil (k9 ⟨27, [(1, _), (4, _), (5, _), (6, _)]⟩ _ ?_)
    refine CWp.seqK fun Kk10 k10 => ?_
    refine CWp.seqK fun Kk11 k11 => ?_
    refine CWp.regionW [1, 5, 21] ?_
    refine VC.s rfl (RVs.move rfl rfl (fun _ => rfl) ?_)
    refine VC.s rfl (RVs.move rfl rfl (fun _ => rfl) ?_)
    refine VC.s rfl (RVs.bin rfl rfl rfl rfl (fun _ => ⟨⟨rfl, rfl⟩, trivial⟩) ?_)
    refine VC.nil (k11 ⟨27, [(1, _), (5, _), (21, _)]⟩ _ ?_)
    refine CWp.condV rfl (fun hc2 => ?_) (fun hc2 => ?_)
    · simp at hc2
    · try simp at hc2
      refine CWp.skip ?_
      refine k10 _ _ ?_
      refine CWp.seqK fun Kk12 k12 => ?_
      refine CWp.seqK fun Kk13 k13 => ?_
      refine CWp.regionDW [26] [false, false, false, false, false] (by decide +kernel) ?_
      refine VC.s rfl (RVs.load_agg rfl TyOf.h rfl (fun _ => ⟨rfl, (Sep.at_ (i := 0) hs5 rfl), rw_live, Nat.le_of_ble_eq_true rfl, rfl⟩) ?_)
      refine VC.s rfl (RVs.load_agg rfl TyOf.h rfl (fun _ => ⟨rfl, (Sep.at_ (i := 5) hs5 rfl), rw_live, Nat.le_of_ble_eq_true rfl, rfl⟩) ?_)
      refine VC.s rfl (RVs.call rfl rfl rfl rfl ⟨rfl, rfl⟩ (toBox _ _ _ _ (hS_x_mails.mono (hle (hs5.pre))) (hS_x_tombs.mono (hle (hs5.pre))) hn.1 hn.2) (.inr fun _ _ h => h.elim fun _ h => h.elim fun _ h => h.2.1) ?_)
      rintro v3 H6 ⟨vC, wC, rfl, f3⟩
      have g5 := (f3).1
      have hs6 := Sep.split (Sep.addP hs5 (f3))
      refine VC.s rfl (RVs.callp rfl rfl rfl (fun _ => ⟨⟨rfl, rfl⟩, eqBox _ _ _ _ _ _ _ (Sep.VS (i := 4) hs6 rfl) (Sep.VS (i := 1) hs6 rfl) (Sep.VS (i := 3) hs6 rfl) (Sep.VS (i := 0) hs6 rfl)⟩) ?_)
      refine VC.s rfl (RVs.not rfl rfl (fun _ => rfl) ?_)
      refine VC.nil (k13 ⟨27, [(26, _)]⟩ _ ?_)
      refine CWp.condV rfl (fun hc3 => ?_) (fun hc3 => ?_)
      · simp at hc3
      · try simp at hc3
        refine CWp.skip ?_
        refine k12 _ _ ?_
        refine CWp.seqK fun Kk14 k14 => ?_
        refine CWp.regionW [2] ?_
        refine VC.s rfl (RVs.assign rfl rfl (fun _ => rfl) ?_)
        refine VC.nil (k14 ⟨27, [(2, _)]⟩ _ ?_)
        refine CWp.ret (q _ _ _ (.cons (.tmp rfl) .nil) ?_).1
        rfl

end Go.Proofs.YtaccaelocddakaaDoor
