/- The walk of the reference TellView. -/
import Derived.Test.YtaccaelocddakaaBT9
namespace Go.Proofs.Ytaccaelocddakaa
open Go Go.RowKit
set_option linter.unusedVariables false
set_option maxRecDepth 20000
variable [Tabs]

theorem sTellView (x : View) (x_uids : Value) (y : Box) (y_mails y_tombs : Value) (H : AH) (hS_x_uids : kInt.S H x_uids x.uids) (hb_x_box : x.box.length ≤ lim) (hS_y_mails : kMail.S H y_mails y.mails) (hS_y_tombs : kTomb.S H y_tombs y.tombs) (hb_y_name : y.name.length ≤ lim) : FWp Try.prog 19 [.agg #[.string (bs x.box), .int .i64 x.valid, x_uids, .int .i64 x.mod], .agg #[.string (bs y.name), .int .i64 y.valid, .int .i64 y.next, .int .i64 y.mod, y_mails, y_tombs, .int .i64 y.horizon]] H (fun v' H' => ∃ v w, v' = .tuple #[.agg #[.string (bs (tellView x y).1.box), .int .i64 (tellView x y).1.valid, v, .int .i64 (tellView x y).1.mod], w] ∧ FreshP ((pVal kLine0.slice [w] (tellView x y).2).star (pVal kInt.slice [v] (tellView x y).1.uids)) H H') := by
  have hS_x_uidsl := hS_x_uids.lim
  unfold lim at hS_x_uidsl
  obtain ⟨ax, cx, rfl, hS_x_uidsc⟩ := hS_x_uids.form
  have hS_y_mailsl := hS_y_mails.lim
  unfold lim at hS_y_mailsl
  obtain ⟨am, cm, rfl, hS_y_mailsc⟩ := hS_y_mails.form
  refine FWp.enterK Try.func19 rfl (by decide +kernel) rfl rfl fun Q q => ?_
  have hs0 := Sep.nil (H := H)
  refine CWp.seqK fun Kk1 k1 => ?_
  refine CWp.regionW [2, 3, 4] ?_
  refine VC.s rfl (RVs.box rfl TyOf.h rfl rfl rfl ?_)
  intro b1 H1 g1 l1 a1
  have hs1 := Sep.addB hs0 g1 l1 a1
  refine VC.s rfl (RVs.box rfl TyOf.h rfl rfl rfl ?_)
  intro b2 H2 g2 l2 a2
  have hs2 := Sep.addB hs1 g2 l2 a2
  refine VC.s rfl (RVs.alloc ZeroOf.h TyOf.h rfl rfl ?_)
  intro b3 H3 g3 l3 a3
  have hs3 := Sep.addB hs2 g3 l3 a3
  refine VC.s rfl (RVs.assign rfl rfl (fun _ => rfl) ?_)
  refine VC.nil (k1 ⟨116, [(2, _), (3, _), (4, _)]⟩ _ ?_)
  refine CWp.seqK fun Kk2 k2 => ?_
  refine CWp.seqK fun Kk3 k3 => ?_
  refine CWp.regionW [2, 3, 4, 33] ?_
  refine VC.s rfl (RVs.load_agg rfl TyOf.h rfl (fun _ => ⟨rfl, (Sep.at_ (i := 2) hs3 rfl), rw_live, Nat.le_of_ble_eq_true rfl, rfl⟩) ?_)
  refine VC.s rfl (RVs.callp rfl rfl rfl (fun _ => ⟨⟨rfl, rfl⟩, sViewOk _ _ _ (hS_x_uids.mono (hle (hs3.pre))) hb_x_box⟩) ?_)
  refine VC.s rfl (RVs.not rfl rfl (fun _ => rfl) ?_)
  refine VC.s rfl (RVs.move rfl rfl (fun _ => rfl) ?_)
  refine VC.s rfl (RVs.load_agg rfl TyOf.h rfl (fun hg => ⟨rfl, (Sep.at_ (i := 1) hs3 rfl), rw_live, Nat.le_of_ble_eq_true rfl, rfl⟩) ?_)
  refine VC.s rfl (RVs.callp rfl rfl rfl (fun hg => ⟨⟨rfl, (GF.conds_cons hg rfl)⟩, sBoxOk _ _ _ _ (hS_y_mails.mono (hle (hs3.pre))) (hS_y_tombs.mono (hle (hs3.pre))) hb_y_name⟩) ?_)
  refine VC.s rfl (RVs.not rfl rfl (fun hg => hg) ?_)
  refine VC.s rfl (RVs.pick rfl rfl rfl rfl (fun hg => ⟨rfl, fun _ => rfl, fun hh => pk_f hh rfl⟩) ?_)
  refine VC.s rfl (RVs.move rfl rfl (fun _ => rfl) ?_)
  refine VC.s rfl (RVs.fieldAddr rfl FieldOf.h (by decide) rfl (fun hg => rfl) ?_)
  refine VC.s rfl (RVs.load rfl TyOf.h rfl (fun hg => ⟨hg, (Sep.at_ (i := 2) hs3 rfl), rw_live, rfl⟩) ?_)
  refine VC.s rfl (RVs.fieldAddr rfl FieldOf.h (by decide) rfl (fun hg => rfl) ?_)
  refine VC.s rfl (RVs.load rfl TyOf.h rfl (fun hg => ⟨hg, (Sep.at_ (i := 1) hs3 rfl), rw_live, rfl⟩) ?_)
  refine VC.s rfl (RVs.bin rfl rfl rfl rfl (fun hg => ⟨⟨hg, hg⟩, trivial⟩) ?_)
  refine VC.s rfl (RVs.pick rfl rfl rfl rfl (fun hg => ⟨rfl, fun _ => rfl, fun hh => pk_f hh rfl⟩) ?_)
  refine VC.s rfl (RVs.move rfl rfl (fun _ => rfl) ?_)
  refine VC.s rfl (RVs.fieldAddr rfl FieldOf.h (by decide) rfl (fun hg => rfl) ?_)
  refine VC.s rfl (RVs.load rfl TyOf.h rfl (fun hg => ⟨hg, (Sep.at_ (i := 2) hs3 rfl), rw_live, rfl⟩) ?_)
  refine VC.s rfl (RVs.fieldAddr rfl FieldOf.h (by decide) rfl (fun hg => rfl) ?_)
  refine VC.s rfl (RVs.load rfl TyOf.h rfl (fun hg => ⟨hg, (Sep.at_ (i := 1) hs3 rfl), rw_live, rfl⟩) ?_)
  refine VC.s rfl (RVs.bin rfl rfl rfl rfl (fun hg => ⟨⟨hg, hg⟩, rfl⟩) ?_)
  refine VC.s rfl (RVs.pick rfl rfl rfl rfl (fun hg => ⟨rfl, fun _ => rfl, fun hh => pk_f hh rfl⟩) ?_)
  refine VC.nil (k3 ⟨116, [(2, _), (3, _), (4, _), (33, _)]⟩ _ ?_)
  refine CWp.condV rfl (fun hc1 => ?_) (fun hc1 => ?_)
  · simp only [bl_bs] at hc1
    have htv := tell_no (v := x) (b := y) hc1
    refine CWp.seqK fun Kk4 k4 => ?_
    refine CWp.regionW [4, 5] ?_
    refine VC.s rfl (RVs.build rfl ZeroOf.h rfl FieldsOk.h rfl (fun _ => rfl) ?_)
    refine VC.s rfl (RVs.build rfl ZeroOf.h rfl FieldsOk.h rfl (fun _ => rfl) ?_)
    refine VC.s rfl (RVs.buildS ElemOf.h ZeroOf.h rfl rfl rfl (by decide) rfl rfl rfl ?_)
    intro b4 H4 g4 l4 a4
    have hs4 := Sep.addO (k := kLine0) (xs := [lnBye]) Kd.flat_Flat hs3 g4 l4 a4 (Kd.Rs.one ⟨rfl, rfl⟩) rfl (by decide)
    have hs5 := Sep.addNil (k := kInt) (e := 3) hs4
    refine VC.s rfl (RVs.storeBN (i := 2) hs5 rfl rfl rfl TyOf.h rfl rfl rfl ⟨rfl, rfl⟩ rfl (Nat.le_of_ble_eq_true rfl) rfl ?_)
    intro H5 hs6
    refine VC.s rfl (RVs.assign rfl rfl (fun _ => rfl) ?_)
    refine VC.nil (k4 ⟨116, [(4, _), (5, _)]⟩ _ ?_)
    refine CWp.ret (q _ _ _ (.cons (.cells rfl (Ty.of TyOf.h) (Sep.at_ (i := 2) hs6 rfl) rw_live (Nat.le_of_ble_eq_true rfl)) (.cons (.tmp rfl) .nil)) ?_).1
    rw [htv]
    exact ⟨_, _, rfl, Sep.fresh (i := 0) (Sep.join (Sep.del (Sep.del (Sep.del (Sep.front (i := 1) (Sep.front (i := 0) (Sep.toV (i := 0) (Sep.toV (i := 1) hs6 rfl) rfl) rfl) rfl) 4) 3) 2)) rfl⟩
  · simp only [bl_bs] at hc1
    obtain ⟨hvo, hbo, htv⟩ := tell_yes (v := x) (b := y) hc1
    have hul := viewOk_len hvo
    obtain ⟨_, hml, _, _⟩ := boxOk_facts hbo
    refine CWp.skip ?_
    refine k2 _ _ ?_
    refine CWp.seqK fun Kk5 k5 => ?_
    refine CWp.regionW [2, 3, 4, 6] ?_
    refine VC.s rfl (RVs.buildS ElemOf.h ZeroOf.h rfl rfl rfl (by decide) rfl rfl rfl ?_)
    intro b5 H6 g5 l5 a5
    have hs7 := Sep.addE (k := kLine0) hs3 g5 l5 a5 rfl
    refine VC.s rfl (RVs.assign rfl rfl (fun _ => rfl) ?_)
    refine VC.nil (k5 ⟨116, [(2, _), (3, _), (4, _), (6, _)]⟩ _ ?_)
    refine CWp.seqK fun Kk6 k6 => ?_
    refine CWp.regionW [2, 3, 4, 6, 7] ?_
    refine VC.s rfl (RVs.buildS ElemOf.h ZeroOf.h rfl rfl rfl (by decide) rfl rfl rfl ?_)
    intro b6 H7 g6 l6 a6
    have hs8 := Sep.addE (k := kInt) hs7 g6 l6 a6 rfl
    refine VC.s rfl (RVs.fieldAddr rfl FieldOf.h (by decide) rfl (fun _ => rfl) ?_)
    refine VC.s rfl (RVs.load rfl TyOf.h rfl (fun _ => ⟨rfl, (Sep.at_ (i := 4) hs8 rfl), rw_live, rfl⟩) ?_)
    refine VC.s rfl (RVs.appendZ (k := kInt) (zs := x.uids) int_Flat (i := 0) hs8 rfl rfl rfl ElemOf.h ElOk.h UnSl.h rfl rfl rfl ⟨rfl, rfl⟩ (hS_x_uids.mono (hle (hs8.pre))) (rfl) (small_of (by simp; omega) (by decide)) ?_)
    intro ad1 cp1 H8 hcp1 hs9
    refine VC.s rfl (RVs.assign rfl rfl (fun _ => rfl) ?_)
    refine VC.nil (k6 ⟨116, [(2, _), (3, _), (4, _), (6, _), (7, _)]⟩ _ ?_)
    refine CWp.seqK fun Kk7 k7 => ?_
    refine CWp.seqK fun Kk8 k8 => ?_
    refine CWp.regionW [2, 3, 4, 6, 7, 8] ?_
    refine VC.s rfl (RVs.assign rfl rfl (fun _ => rfl) ?_)
    refine VC.nil (k8 ⟨116, [(2, _), (3, _), (4, _), (6, _), (7, _), (8, _)]⟩ _ ?_)
    refine CWp.block ?_
    refine CWp.loopK (fun n T H' => ∃ (m : Nat) (al : Option Addr) (cl : Nat) (ak : Option Addr) (ck : Nat), T = ⟨116, [(2, .pointer (some ⟨b1, 0, none⟩)), (3, .pointer (some ⟨b2, 0, none⟩)), (4, .pointer (some ⟨b3, 0, none⟩)), (6, .slice al (exF y (x.uids.take m)).1.length cl), (7, .slice ak ((exF y (x.uids.take m)).2 ++ x.uids.drop m).length ck), (8, .int .i64 ((exF y (x.uids.take m)).2.length : Int))]⟩ ∧ n = x.uids.length - m ∧ (m ≤ x.uids.length) ∧ Sep [] H H' [pBox b1 49 4 [.string (bs x.box), .int .i64 x.valid, .slice ax x.uids.length cx, .int .i64 x.mod], pBox b2 56 7 [.string (bs y.name), .int .i64 y.valid, .int .i64 y.next, .int .i64 y.mod, .slice am y.mails.length cm, y_tombs, .int .i64 y.horizon], pBox b3 49 4 [.string ⟨#[]⟩, .int .i64 0, .slice none 0 0, .int .i64 0], pOwn kLine0 80 (.slice al (exF y (x.uids.take m)).1.length cl) (exF y (x.uids.take m)).1, pOwn kInt 3 (.slice ak ((exF y (x.uids.take m)).2 ++ x.uids.drop m).length ck) ((exF y (x.uids.take m)).2 ++ x.uids.drop m)]) (n := x.uids.length) ⟨0, _, _, _, _, rfl, by first | rfl | simp, by omega, (Sep.front (i := 4) (Sep.front (i := 3) (Sep.front (i := 2) (Sep.front (i := 1) (Sep.front (i := 0) hs9 rfl) rfl) rfl) rfl) rfl)⟩ ?_
    rintro n T Hl1 Kk9 k9 ⟨m, al, cl, ak, ck, rfl, hn1, hmi, hs10⟩
    have hls := (exF_lens y (x.uids.take m)).1
    rw [List.length_take] at hls
    refine CWp.seqK fun Kk10 k10 => ?_
    refine CWp.seqK fun Kk11 k11 => ?_
    refine CWp.regionW [2, 3, 4, 6, 7, 8, 45] ?_
    refine VC.s rfl (RVs.move rfl rfl (fun _ => rfl) ?_)
    refine VC.s rfl (RVs.move rfl rfl (fun _ => rfl) ?_)
    refine VC.s rfl (RVs.len_slice rfl UnSl.h rfl (fun _ => rfl) ?_)
    refine VC.s rfl (RVs.bin rfl rfl rfl rfl (fun _ => ⟨⟨rfl, rfl⟩, rfl⟩) ?_)
    refine VC.nil (k11 ⟨116, [(2, _), (3, _), (4, _), (6, _), (7, _), (8, _), (45, _)]⟩ _ ?_)
    refine CWp.condV rfl (fun hc2 => ?_) (fun hc2 => ?_)
    · have hlt : m < x.uids.length := by have h9 := of_decide_eq_true hc2; rw [List.length_append, List.length_drop] at h9; omega
      refine CWp.skip ?_
      refine k10 _ _ ?_
      refine CWp.block ?_
      refine CWp.seqK fun Kk12 k12 => ?_
      refine CWp.seqK fun Kk13 k13 => ?_
      refine CWp.regionDW [2, 3, 4, 6, 7, 8, 51] [false, false, false, false, false, false] (by decide +kernel) ?_
      refine VC.s rfl (RVs.load_agg rfl TyOf.h rfl (fun _ => ⟨rfl, (Sep.at_ (i := 1) hs10 rfl), rw_live, Nat.le_of_ble_eq_true rfl, rfl⟩) ?_)
      refine VC.s rfl (RVs.move rfl rfl (fun _ => rfl) ?_)
      refine VC.s rfl (RVs.move rfl rfl (fun _ => rfl) ?_)
      refine VC.s rfl (RVs.indexS rfl (Sep.S (i := 4) hs10 rfl) rfl ElemOf.h rfl (fun _ => ⟨⟨rfl, rfl⟩, by omega, by (have h9 : ((exF y (x.uids.take m)).2 ++ x.uids.drop m).length = (exF y (x.uids.take m)).2.length + (x.uids.length - m) := (by rw [List.length_append, List.length_drop])); omega⟩) ?_)
      intro id1 j1 u1 B1 e1
      obtain ⟨y1, hy1, e1⟩ := e1 rfl
      try simp only [Int.toNat_natCast] at hy1
      obtain ⟨rfl, _⟩ := e1.r
      refine VC.s rfl (RVs.loadF (k := _) (f := 0) rfl TyOf.h rfl (fun _ => ⟨rfl, e1, by decide, rfl⟩) ?_)
      refine VC.s rfl (RVs.callp rfl rfl rfl (fun _ => ⟨⟨rfl, rfl⟩, l08HasMail _ _ _ _ _ (hS_y_mails.mono (hle (hs10.pre)))⟩) ?_)
      refine VC.nil (k13 ⟨116, [(2, _), (3, _), (4, _), (6, _), (7, _), (8, _), (51, _)]⟩ _ ?_)
      refine CWp.condV rfl (fun hc3 => ?_) (fun hc3 => ?_)
      · have hy9 : x.uids[m]? = some y1 := mid_get.symm.trans hy1
        have hst := exF_yes hy9 hc3
        have hl1 : (exF y (x.uids.take (m + 1))).1 = (exF y (x.uids.take m)).1 := by rw [hst]
        have hl2 : (exF y (x.uids.take (m + 1))).2 ++ x.uids.drop (m + 1) = ((exF y (x.uids.take m)).2 ++ x.uids.drop m) := by rw [hst, mid_drop1 hy9]; simp
        have hk2 : (exF y (x.uids.take (m + 1))).2.length = (exF y (x.uids.take m)).2.length + 1 := by rw [hst]; simp
        refine CWp.seqK fun Kk14 k14 => ?_
        refine CWp.regionW [2, 3, 4, 6, 7, 8] ?_
        refine VC.s rfl (RVs.move rfl rfl (fun _ => rfl) ?_)
        refine VC.s rfl (RVs.arith (r := (((exF y (x.uids.take m)).2.length + 1 : Nat) : Int)) rfl rfl rfl (by (try simp only [bl_bs]); first | exact wrap_in (by omega) | (rw [wrap_in (by omega)]; omega)) rfl (fun _ => ⟨⟨rfl, rfl⟩, rfl⟩) ?_)
        refine VC.s rfl (RVs.assign rfl rfl (fun _ => rfl) ?_)
        refine VC.nil (k14 ⟨116, [(2, _), (3, _), (4, _), (6, _), (7, _), (8, _)]⟩ _ ?_)
        refine CWp.exit ?_
        refine (k9 _ ⟨116, [(2, _), (3, _), (4, _), (6, _), (7, _), (8, _)]⟩ _ ?_ ⟨m + 1, _, _, _, _, by first | (rw [hl1, hl2, hk2]; done) | (rw [hl1, hl2, hk2]; rfl) | (rw [hl2, hk2]; done) | (rw [hl2, hk2]; rfl), rfl, by omega, by first | (rw [hl1, hl2]; exact hs10) | (rw [hl2]; exact hs10)⟩)
        omega
      · have hy9 : x.uids[m]? = some y1 := mid_get.symm.trans hy1
        have hst := exF_no hy9 hc3
        have hl1 : (exF y (x.uids.take (m + 1))).1 = (exF y (x.uids.take m)).1 ++ [lnExp (((exF y (x.uids.take m)).2.length : Int) + 1)] := by rw [hst]
        have hl2 : (exF y (x.uids.take (m + 1))).2 ++ x.uids.drop (m + 1) = (exF y (x.uids.take m)).2 ++ x.uids.drop (m + 1) := by rw [hst]
        have hk2 : (exF y (x.uids.take (m + 1))).2.length = (exF y (x.uids.take m)).2.length := by rw [hst]
        refine CWp.skip ?_
        refine k12 _ _ ?_
        refine CWp.seqK fun Kk15 k15 => ?_
        refine CWp.regionW [2, 3, 4, 6, 7, 8] ?_
        refine VC.s rfl (RVs.move rfl rfl (fun _ => rfl) ?_)
        refine VC.s rfl (RVs.move rfl rfl (fun _ => rfl) ?_)
        refine VC.s rfl (RVs.arith (r := (((exF y (x.uids.take m)).2.length : Int) + 1)) rfl rfl rfl (by (try simp only [bl_bs]); first | exact wrap_in (by omega) | (rw [wrap_in (by omega)]; omega)) rfl (fun _ => ⟨⟨rfl, rfl⟩, rfl⟩) ?_)
        refine VC.s rfl (RVs.build rfl ZeroOf.h rfl FieldsOk.h rfl (fun _ => rfl) ?_)
        refine VC.s rfl (RVs.buildS ElemOf.h ZeroOf.h rfl rfl rfl (by decide) rfl rfl rfl ?_)
        intro b7 H9 g7 l7 a7
        have hs11 := Sep.grow hs10 g7
        refine VC.s rfl (RVs.appendZ (k := kLine0) (zs := (exF y (x.uids.take (m + 1))).1) Kd.flat_Flat (i := 3) hs11 rfl rfl rfl ElemOf.h ElOk.h UnSl.h rfl rfl rfl ⟨rfl, rfl⟩ (lit_S (k := kLine0) (xs := [lnExp (((exF y (x.uids.take m)).2.length : Int) + 1)]) a7 (Kd.Rs.one ⟨rfl, rfl⟩) rfl (by decide)) (hl1.symm) (small_of (by simp only [List.length_append, List.length_cons, List.length_nil]; omega) (by decide)) ?_)
        intro ad2 cp2 H10 hcp2 hs12
        refine VC.s rfl (RVs.assign rfl rfl (fun _ => rfl) ?_)
        refine VC.nil (k15 ⟨116, [(2, _), (3, _), (4, _), (6, _), (7, _), (8, _)]⟩ _ ?_)
        refine CWp.regionDW [2, 3, 4, 6, 7, 8] [false, false, false, false, false, false, false, false, false, true, false] (by decide +kernel) ?_
        refine VC.s rfl (RVs.buildNil ElemOf.h rfl rfl ?_)
        refine VC.s rfl (RVs.move rfl rfl (fun _ => rfl) ?_)
        refine VC.s rfl (RVs.move rfl rfl (fun _ => rfl) ?_)
        refine VC.s rfl (RVs.sliceF (k := kInt) (l := 0) (h := (exF y (x.uids.take m)).2.length) rfl (Sep.S (i := 4) hs12 rfl) ElemOf.h rfl ⟨_, rfl⟩ rfl rfl ⟨rfl, (fun y hy => by cases hy), (fun y hy => by cases hy; rfl)⟩ (Nat.zero_le _) (by simp) ?_)
        intro ad3 cp3 hsub1
        refine VC.s rfl (RVs.appendN (k := kInt) (zs := (exF y (x.uids.take m)).2) int_Flat hs12 rfl rfl ElemOf.h ElOk.h UnSl.h rfl rfl ⟨rfl, rfl⟩ (hsub1 _ (Sep.S (i := 4) hs12 rfl)) (by simp) (small_of (by simp; omega) (by decide)) ?_)
        intro ad4 cp4 H11 g8 hcp3 hs13
        refine VC.s rfl (RVs.move rfl rfl (fun _ => rfl) ?_)
        refine VC.s rfl (RVs.move rfl rfl (fun _ => rfl) ?_)
        refine VC.s rfl (RVs.arith (r := (((exF y (x.uids.take m)).2.length + 1 : Nat) : Int)) rfl rfl rfl (by (try simp only [bl_bs]); first | exact wrap_in (by omega) | (rw [wrap_in (by omega)]; omega)) rfl (fun _ => ⟨⟨rfl, rfl⟩, rfl⟩) ?_)
        refine VC.s rfl (RVs.sliceF (k := kInt) (l := (exF y (x.uids.take m)).2.length + 1) (h := ((exF y (x.uids.take m)).2 ++ x.uids.drop m).length) rfl (Sep.S (i := 5) hs13 rfl) ElemOf.h ⟨_, rfl⟩ rfl rfl rfl ⟨rfl, (fun y hy => by cases hy; rfl), (fun y hy => by cases hy)⟩ (by rw [List.length_append, List.length_drop]; omega) (Nat.le_refl _) ?_)
        intro ad5 cp5 hsub2
        refine VC.s rfl (RVs.appendZ (k := kInt) (zs := (exF y (x.uids.take m)).2 ++ x.uids.drop (m + 1)) int_Flat (i := 0) hs13 rfl rfl rfl ElemOf.h ElOk.h UnSl.h rfl rfl rfl ⟨rfl, rfl⟩ (hsub2 _ (Sep.S (i := 5) hs13 rfl)) (by rw [mid_drop, List.take_of_length_le (l := x.uids.drop (m + 1)) (by rw [List.length_append, List.length_drop, List.length_drop]; omega)]) (small_of (by simp; omega) (by decide)) ?_)
        intro ad6 cp6 H12 hcp4 hs14
        refine VC.s rfl (RVs.assign rfl rfl (fun _ => rfl) ?_)
        refine VC.nil (k9 _ ⟨116, [(2, _), (3, _), (4, _), (6, _), (7, _), (8, _)]⟩ _ ?_ ⟨m + 1, _, _, _, _, by first | (rw [hl1, hl2, hk2]; done) | (rw [hl1, hl2, hk2]; rfl) | (rw [hl2, hk2]; done) | (rw [hl2, hk2]; rfl), rfl, by omega, by first | (rw [hl1, hl2]; exact (Sep.del (Sep.front (i := 4) (Sep.front (i := 4) (Sep.front (i := 4) (Sep.front (i := 4) (Sep.front (i := 0) hs14 rfl) rfl) rfl) rfl) rfl) 5)) | (rw [hl2]; exact (Sep.del (Sep.front (i := 4) (Sep.front (i := 4) (Sep.front (i := 4) (Sep.front (i := 4) (Sep.front (i := 0) hs14 rfl) rfl) rfl) rfl) rfl) 5))⟩)
        omega
    · have hme : x.uids.length ≤ m := by have h9 := of_decide_eq_false hc2; rw [List.length_append, List.length_drop] at h9; omega
      have htk : x.uids.take m = x.uids := List.take_of_length_le hme
      have hdr : x.uids.drop m = [] := List.drop_of_length_le hme
      rw [htk, hdr, List.append_nil] at hs10 ⊢
      refine CWp.exit ?_
      refine k7 _ _ ?_
      refine CWp.seqK fun Kk16 k16 => ?_
      refine CWp.regionW [2, 3, 4, 6, 7, 9] ?_
      refine VC.s rfl (RVs.load_agg rfl TyOf.h rfl (fun _ => ⟨rfl, (Sep.at_ (i := 1) hs10 rfl), rw_live, Nat.le_of_ble_eq_true rfl, rfl⟩) ?_)
      refine VC.s rfl (RVs.call rfl rfl rfl rfl ⟨rfl, rfl⟩ (sViewOf _ _ _ _ (hS_y_mails.mono (hle (hs10.pre))) (by omega)) (.inr fun _ _ h => h.elim fun _ h => h.2.1) ?_)
      rintro v1 H13 ⟨vu, rfl, f1⟩
      have g9 := (f1).1
      have hs15 := Sep.addP hs10 (f1)
      obtain ⟨au, cu, rfl, hcu⟩ := ((Sep.VS (i := 0) hs15 rfl)).form
      refine VC.s rfl (RVs.alloc ZeroOf.h TyOf.h rfl rfl ?_)
      intro b8 H14 g10 l8 a8
      have hs16 := Sep.addB hs15 g10 l8 a8
      refine VC.s rfl (RVs.storeBN (i := 0) hs16 rfl rfl rfl TyOf.h rfl rfl rfl ⟨rfl, rfl⟩ rfl (Nat.le_of_ble_eq_true rfl) (show List.all [_, _, _, _] oneCell = true from by simp only [List.all_cons, List.all_nil, ((Sep.VS (i := 1) hs16 rfl)).oc]; rfl) ?_)
      intro H15 hs17
      refine VC.nil (k16 ⟨116, [(2, _), (3, _), (4, _), (6, _), (7, _), (9, _)]⟩ _ ?_)
      refine CWp.seqK fun Kk17 k17 => ?_
      refine CWp.seqK fun Kk18 k18 => ?_
      refine CWp.regionW [2, 3, 4, 6, 9, 77] ?_
      refine VC.s rfl (RVs.fieldAddr rfl FieldOf.h (by decide) rfl (fun _ => rfl) ?_)
      refine VC.s rfl (RVs.load rfl TyOf.h rfl (fun _ => ⟨rfl, (Sep.at_ (i := 0) hs17 rfl), rw_live, rfl⟩) ?_)
      refine VC.s rfl (RVs.len_slice rfl UnSl.h rfl (fun _ => rfl) ?_)
      refine VC.s rfl (RVs.move rfl rfl (fun _ => rfl) ?_)
      refine VC.s rfl (RVs.len_slice rfl UnSl.h rfl (fun _ => rfl) ?_)
      refine VC.s rfl (RVs.bin rfl rfl rfl rfl (fun _ => ⟨⟨rfl, rfl⟩, rfl⟩) ?_)
      refine VC.nil (k18 ⟨116, [(2, _), (3, _), (4, _), (6, _), (9, _), (77, _)]⟩ _ ?_)
      refine CWp.condV rfl (fun hc4 => ?_) (fun hc4 => ?_)
      · have hlt := of_decide_eq_true hc4
        have hex : exLine y (exF y x.uids).2 = [lnExists y.mails.length] := by unfold exLine; rw [if_pos (by have h9 : (viewOf y).uids.length = y.mails.length := List.length_map ..; omega)]
        refine CWp.regionW [2, 3, 4, 6, 9] ?_
        refine VC.s rfl (RVs.move rfl rfl (fun _ => rfl) ?_)
        refine VC.s rfl (RVs.fieldAddr rfl FieldOf.h (by decide) rfl (fun _ => rfl) ?_)
        refine VC.s rfl (RVs.load rfl TyOf.h rfl (fun _ => ⟨rfl, (Sep.at_ (i := 0) hs17 rfl), rw_live, rfl⟩) ?_)
        refine VC.s rfl (RVs.len_slice rfl UnSl.h rfl (fun _ => rfl) ?_)
        refine VC.s rfl (RVs.build rfl ZeroOf.h rfl FieldsOk.h rfl (fun _ => rfl) ?_)
        refine VC.s rfl (RVs.buildS ElemOf.h ZeroOf.h rfl rfl rfl (by decide) rfl rfl rfl ?_)
        intro b9 H16 g11 l9 a9
        have hs18 := Sep.grow hs17 g11
        have hls := (exF_lens y x.uids).1
        refine VC.s rfl (RVs.appendZ (k := kLine0) (zs := ((exF y x.uids).1 ++ exLine y (exF y x.uids).2)) Kd.flat_Flat (i := 5) hs18 rfl rfl rfl ElemOf.h ElOk.h UnSl.h rfl rfl rfl ⟨rfl, rfl⟩ (lit_S (k := kLine0) (xs := [lnExists ((viewOf y).uids.length : Int)]) a9 (Kd.Rs.one ⟨rfl, rfl⟩) rfl (by decide)) (by rw [hex]; simp [viewOf]) (small_of (by simp only [List.length_append, List.length_cons, List.length_nil]; omega) (by decide)) ?_)
        intro ad7 cp7 H17 hcp5 hs19
        refine VC.s rfl (RVs.assign rfl rfl (fun _ => rfl) ?_)
        refine VC.nil (k17 ⟨116, [(2, _), (3, _), (4, _), (6, _), (9, _)]⟩ _ ?_)
        refine CWp.seqK fun Kk19 k19 => ?_
        refine CWp.seqK fun Kk20 k20 => ?_
        refine CWp.regionW [2, 3, 4, 6, 9, 10] ?_
        refine VC.s rfl (RVs.assign rfl rfl (fun _ => rfl) ?_)
        refine VC.nil (k20 ⟨116, [(2, _), (3, _), (4, _), (6, _), (9, _), (10, _)]⟩ _ ?_)
        refine CWp.block ?_
        refine CWp.loopK (fun n T H' => ∃ (i : Nat) (al : Option Addr) (cl : Nat), T = ⟨116, [(2, .pointer (some ⟨b1, 0, none⟩)), (3, .pointer (some ⟨b2, 0, none⟩)), (4, .pointer (some ⟨b3, 0, none⟩)), (6, .slice al (((exF y x.uids).1 ++ exLine y (exF y x.uids).2) ++ feL x.mod y.mails i).length cl), (9, .pointer (some ⟨b8, 0, none⟩)), (10, .int .i64 (i : Int))]⟩ ∧ n = y.mails.length - i ∧ (i ≤ y.mails.length) ∧ Sep [] H H' [pBox b1 49 4 [.string (bs x.box), .int .i64 x.valid, .slice ax x.uids.length cx, .int .i64 x.mod], pBox b2 56 7 [.string (bs y.name), .int .i64 y.valid, .int .i64 y.next, .int .i64 y.mod, .slice am y.mails.length cm, y_tombs, .int .i64 y.horizon], pBox b3 49 4 [.string ⟨#[]⟩, .int .i64 0, .slice none 0 0, .int .i64 0], pBox b8 49 4 [.string (bs y.name), .int .i64 y.valid, .slice au (viewOf y).uids.length cu, .int .i64 y.mod], pVal kInt.slice [.slice au (viewOf y).uids.length cu] (viewOf y).uids, pOwn kLine0 80 (.slice al (((exF y x.uids).1 ++ exLine y (exF y x.uids).2) ++ feL x.mod y.mails i).length cl) (((exF y x.uids).1 ++ exLine y (exF y x.uids).2) ++ feL x.mod y.mails i)]) (n := y.mails.length) ⟨0, _, _, by first | (rw [show feL x.mod y.mails 0 = [] from rfl, List.append_nil]; done) | (rw [show feL x.mod y.mails 0 = [] from rfl, List.append_nil]; rfl), by first | rfl | simp, by omega, by have hz := (Sep.del (Sep.front (i := 5) (Sep.front (i := 5) (Sep.front (i := 5) (Sep.front (i := 2) (Sep.front (i := 2) (Sep.front (i := 5) hs19 rfl) rfl) rfl) rfl) rfl) rfl) 6); rw [← List.append_nil ((exF y x.uids).1 ++ exLine y (exF y x.uids).2)] at hz; exact hz⟩ ?_
        rintro n T Hl2 Kk21 k21 ⟨i, al, cl, rfl, hn2, hi, hs20⟩
        have hls := (exF_lens y x.uids).1
        have hfl := feL_len (vm := x.mod) (ms := y.mails) (i := i)
        have hxl := exLine_len (b := y) (kept := (exF y x.uids).2)
        refine CWp.seqK fun Kk22 k22 => ?_
        refine CWp.seqK fun Kk23 k23 => ?_
        refine CWp.regionW [2, 3, 4, 6, 9, 10, 89] ?_
        refine VC.s rfl (RVs.move rfl rfl (fun _ => rfl) ?_)
        refine VC.s rfl (RVs.fieldAddr rfl FieldOf.h (by decide) rfl (fun _ => rfl) ?_)
        refine VC.s rfl (RVs.load rfl TyOf.h rfl (fun _ => ⟨rfl, (Sep.at_ (i := 1) hs20 rfl), rw_live, rfl⟩) ?_)
        refine VC.s rfl (RVs.len_slice rfl UnSl.h rfl (fun _ => rfl) ?_)
        refine VC.s rfl (RVs.bin rfl rfl rfl rfl (fun _ => ⟨⟨rfl, rfl⟩, rfl⟩) ?_)
        refine VC.nil (k23 ⟨116, [(2, _), (3, _), (4, _), (6, _), (9, _), (10, _), (89, _)]⟩ _ ?_)
        refine CWp.condV rfl (fun hc5 => ?_) (fun hc5 => ?_)
        · try simp at hc5
          refine CWp.skip ?_
          refine k22 _ _ ?_
          refine CWp.seqK fun Kk24 k24 => ?_
          refine CWp.block ?_
          refine CWp.seqK fun Kk25 k25 => ?_
          refine CWp.regionW [2, 3, 4, 6, 9, 10, 11] ?_
          refine VC.s rfl (RVs.fieldAddr rfl FieldOf.h (by decide) rfl (fun _ => rfl) ?_)
          refine VC.s rfl (RVs.load rfl TyOf.h rfl (fun _ => ⟨rfl, (Sep.at_ (i := 1) hs20 rfl), rw_live, rfl⟩) ?_)
          refine VC.s rfl (RVs.move rfl rfl (fun _ => rfl) ?_)
          refine VC.s rfl (RVs.indexS rfl (hS_y_mails.mono (hle (hs20.pre))) rfl ElemOf.h rfl (fun _ => ⟨⟨rfl, rfl⟩, by omega, by omega⟩) ?_)
          intro id2 j2 u2 B2 e2
          obtain ⟨y2, hy2, e2⟩ := e2 rfl
          try simp only [Int.toNat_natCast] at hy2
          obtain ⟨rfl, hwy2⟩ := e2.r
          refine VC.s rfl (RVs.loadE (k := kMail) rfl TyOf.h rfl (fun _ => ⟨rfl, e2⟩) ?_)
          refine VC.s rfl (RVs.alloc ZeroOf.h TyOf.h rfl rfl ?_)
          intro b10 H18 g12 l10 a10
          have e3 := EP.mono (hle g12) e2
          have hs21 := Sep.addB hs20 g12 l10 a10
          refine VC.s rfl (RVs.storeBN (i := 0) hs21 rfl rfl rfl TyOf.h rfl rfl rfl ⟨rfl, rfl⟩ rfl (Nat.le_of_ble_eq_true rfl) rfl ?_)
          intro H19 hs22
          refine VC.nil (k25 ⟨116, [(2, _), (3, _), (4, _), (6, _), (9, _), (10, _), (11, _)]⟩ _ ?_)
          refine CWp.seqK fun Kk26 k26 => ?_
          refine CWp.regionW [2, 3, 4, 6, 9, 10, 11, 101] ?_
          refine VC.s rfl (RVs.fieldAddr rfl FieldOf.h (by decide) rfl (fun _ => rfl) ?_)
          refine VC.s rfl (RVs.load rfl TyOf.h rfl (fun _ => ⟨rfl, (Sep.at_ (i := 0) hs22 rfl), rw_live, rfl⟩) ?_)
          refine VC.s rfl (RVs.fieldAddr rfl FieldOf.h (by decide) rfl (fun _ => rfl) ?_)
          refine VC.s rfl (RVs.load rfl TyOf.h rfl (fun _ => ⟨rfl, (Sep.at_ (i := 1) hs22 rfl), rw_live, rfl⟩) ?_)
          refine VC.s rfl (RVs.bin rfl rfl rfl rfl (fun _ => ⟨⟨rfl, rfl⟩, rfl⟩) ?_)
          refine VC.nil (k26 ⟨116, [(2, _), (3, _), (4, _), (6, _), (9, _), (10, _), (11, _), (101, _)]⟩ _ ?_)
          refine CWp.condV rfl (fun hc6 => ?_) (fun hc6 => ?_)
          · have hfe := feAt_yes (vm := x.mod) hy2 (of_decide_eq_true hc6)
            refine CWp.regionW [2, 3, 4, 6, 9, 10] ?_
            refine VC.s rfl (RVs.move rfl rfl (fun _ => rfl) ?_)
            refine VC.s rfl (RVs.move rfl rfl (fun _ => rfl) ?_)
            refine VC.s rfl (RVs.arith (r := ((i : Int) + 1)) rfl rfl rfl (by (try simp only [bl_bs]); first | exact wrap_in (by omega) | (rw [wrap_in (by omega)]; omega)) rfl (fun _ => ⟨⟨rfl, rfl⟩, rfl⟩) ?_)
            refine VC.s rfl (RVs.fieldAddr rfl FieldOf.h (by decide) rfl (fun _ => rfl) ?_)
            refine VC.s rfl (RVs.load rfl TyOf.h rfl (fun _ => ⟨rfl, (Sep.at_ (i := 0) hs22 rfl), rw_live, rfl⟩) ?_)
            refine VC.s rfl (RVs.fieldAddr rfl FieldOf.h (by decide) rfl (fun _ => rfl) ?_)
            refine VC.s rfl (RVs.load rfl TyOf.h rfl (fun _ => ⟨rfl, (Sep.at_ (i := 0) hs22 rfl), rw_live, rfl⟩) ?_)
            refine VC.s rfl (RVs.fieldAddr rfl FieldOf.h (by decide) rfl (fun _ => rfl) ?_)
            refine VC.s rfl (RVs.load rfl TyOf.h rfl (fun _ => ⟨rfl, (Sep.at_ (i := 0) hs22 rfl), rw_live, rfl⟩) ?_)
            refine VC.s rfl (RVs.build rfl ZeroOf.h rfl FieldsOk.h rfl (fun _ => rfl) ?_)
            refine VC.s rfl (RVs.buildS ElemOf.h ZeroOf.h rfl rfl rfl (by decide) rfl rfl rfl ?_)
            intro b11 H20 g13 l11 a11
            have hs23 := Sep.grow hs22 g13
            refine VC.s rfl (RVs.appendZ (k := kLine0) (zs := ((exF y x.uids).1 ++ exLine y (exF y x.uids).2) ++ feL x.mod y.mails (i + 1)) Kd.flat_Flat (i := 6) hs23 rfl rfl rfl ElemOf.h ElOk.h UnSl.h rfl rfl rfl ⟨rfl, rfl⟩ (lit_S (k := kLine0) (xs := [lnFetch y2 ((i : Int) + 1)]) a11 (Kd.Rs.one ⟨rfl, rfl⟩) rfl (by decide)) (by rw [feL_step, hfe, List.append_assoc]) (small_of (by simp only [List.length_append, List.length_cons, List.length_nil]; omega) (by decide)) ?_)
            intro ad8 cp8 H21 hcp6 hs24
            refine VC.s rfl (RVs.assign rfl rfl (fun _ => rfl) ?_)
            refine VC.nil (k24 ⟨116, [(2, _), (3, _), (4, _), (6, _), (9, _), (10, _)]⟩ _ ?_)
            refine CWp.regionW [2, 3, 4, 6, 9, 10] ?_
            refine VC.s rfl (RVs.move rfl rfl (fun _ => rfl) ?_)
            refine VC.s rfl (RVs.arith (r := ((i + 1 : Nat) : Int)) rfl rfl rfl (by (try simp only [bl_bs]); first | exact wrap_in (by omega) | (rw [wrap_in (by omega)]; omega)) rfl (fun _ => ⟨⟨rfl, rfl⟩, rfl⟩) ?_)
            refine VC.s rfl (RVs.assign rfl rfl (fun _ => rfl) ?_)
            refine VC.nil (k21 _ ⟨116, [(2, _), (3, _), (4, _), (6, _), (9, _), (10, _)]⟩ _ ?_ ⟨i + 1, _, _, by first | rfl | (rw [feL_step, hfe, List.append_nil]; done) | (rw [feL_step, hfe, List.append_nil]; rfl), rfl, by omega, by first | exact (Sep.del hs24 0) | (rw [feL_step, hfe, List.append_nil]; exact (Sep.del hs24 0))⟩)
            omega
          · have hfe := feAt_no (vm := x.mod) hy2 (of_decide_eq_false hc6)
            refine CWp.skip ?_
            refine k24 _ _ ?_
            refine CWp.regionW [2, 3, 4, 6, 9, 10] ?_
            refine VC.s rfl (RVs.move rfl rfl (fun _ => rfl) ?_)
            refine VC.s rfl (RVs.arith (r := ((i + 1 : Nat) : Int)) rfl rfl rfl (by (try simp only [bl_bs]); first | exact wrap_in (by omega) | (rw [wrap_in (by omega)]; omega)) rfl (fun _ => ⟨⟨rfl, rfl⟩, rfl⟩) ?_)
            refine VC.s rfl (RVs.assign rfl rfl (fun _ => rfl) ?_)
            refine VC.nil (k21 _ ⟨116, [(2, _), (3, _), (4, _), (6, _), (9, _), (10, _)]⟩ _ ?_ ⟨i + 1, _, _, by first | rfl | (rw [feL_step, hfe, List.append_nil]; done) | (rw [feL_step, hfe, List.append_nil]; rfl), rfl, by omega, by first | exact (Sep.del hs22 0) | (rw [feL_step, hfe, List.append_nil]; exact (Sep.del hs22 0))⟩)
            omega
        · try simp at hc5
          refine CWp.exit ?_
          refine k19 _ _ ?_
          refine CWp.seqK fun Kk27 k27 => ?_
          refine CWp.regionW [4, 5] ?_
          refine VC.s rfl (RVs.load_agg rfl TyOf.h rfl (fun _ => ⟨rfl, (Sep.at_ (i := 3) hs20 rfl), rw_live, Nat.le_of_ble_eq_true rfl, rfl⟩) ?_)
          refine VC.s rfl (RVs.move rfl rfl (fun _ => rfl) ?_)
          refine VC.s rfl (RVs.storeBN (i := 2) hs20 rfl rfl rfl TyOf.h rfl rfl rfl ⟨rfl, rfl⟩ rfl (Nat.le_of_ble_eq_true rfl) rfl ?_)
          intro H22 hs25
          refine VC.s rfl (RVs.assign rfl rfl (fun _ => rfl) ?_)
          refine VC.nil (k27 ⟨116, [(4, _), (5, _)]⟩ _ ?_)
          refine CWp.ret (q _ _ _ (.cons (.cells rfl (Ty.of TyOf.h) (Sep.at_ (i := 2) hs25 rfl) rw_live (Nat.le_of_ble_eq_true rfl)) (.cons (.tmp rfl) .nil)) ?_).1
          have hil : i = y.mails.length := by omega
          rw [hil] at hs25
          rw [htv, hil]
          exact ⟨_, _, rfl, Sep.fresh (i := 0) (Sep.join (Sep.del (Sep.del (Sep.del (Sep.del (Sep.front (i := 5) (Sep.front (i := 4) (Sep.toV (i := 5) hs25 rfl) rfl) rfl) 5) 4) 3) 2)) rfl⟩
      · have hlt := of_decide_eq_false hc4
        have hex : exLine y (exF y x.uids).2 = [] := by unfold exLine; rw [if_neg (by have h9 : (viewOf y).uids.length = y.mails.length := List.length_map ..; omega)]
        rw [show (exF y x.uids).1 = (exF y x.uids).1 ++ exLine y (exF y x.uids).2 from by rw [hex, List.append_nil]] at hs17 ⊢
        refine CWp.skip ?_
        refine k17 _ _ ?_
        refine CWp.seqK fun Kk28 k28 => ?_
        refine CWp.seqK fun Kk29 k29 => ?_
        refine CWp.regionW [2, 3, 4, 6, 9, 10] ?_
        refine VC.s rfl (RVs.assign rfl rfl (fun _ => rfl) ?_)
        refine VC.nil (k29 ⟨116, [(2, _), (3, _), (4, _), (6, _), (9, _), (10, _)]⟩ _ ?_)
        refine CWp.block ?_
        refine CWp.loopK (fun n T H' => ∃ (i : Nat) (al : Option Addr) (cl : Nat), T = ⟨116, [(2, .pointer (some ⟨b1, 0, none⟩)), (3, .pointer (some ⟨b2, 0, none⟩)), (4, .pointer (some ⟨b3, 0, none⟩)), (6, .slice al (((exF y x.uids).1 ++ exLine y (exF y x.uids).2) ++ feL x.mod y.mails i).length cl), (9, .pointer (some ⟨b8, 0, none⟩)), (10, .int .i64 (i : Int))]⟩ ∧ n = y.mails.length - i ∧ (i ≤ y.mails.length) ∧ Sep [] H H' [pBox b1 49 4 [.string (bs x.box), .int .i64 x.valid, .slice ax x.uids.length cx, .int .i64 x.mod], pBox b2 56 7 [.string (bs y.name), .int .i64 y.valid, .int .i64 y.next, .int .i64 y.mod, .slice am y.mails.length cm, y_tombs, .int .i64 y.horizon], pBox b3 49 4 [.string ⟨#[]⟩, .int .i64 0, .slice none 0 0, .int .i64 0], pBox b8 49 4 [.string (bs y.name), .int .i64 y.valid, .slice au (viewOf y).uids.length cu, .int .i64 y.mod], pVal kInt.slice [.slice au (viewOf y).uids.length cu] (viewOf y).uids, pOwn kLine0 80 (.slice al (((exF y x.uids).1 ++ exLine y (exF y x.uids).2) ++ feL x.mod y.mails i).length cl) (((exF y x.uids).1 ++ exLine y (exF y x.uids).2) ++ feL x.mod y.mails i)]) (n := y.mails.length) ⟨0, _, _, by first | (rw [show feL x.mod y.mails 0 = [] from rfl, List.append_nil]; done) | (rw [show feL x.mod y.mails 0 = [] from rfl, List.append_nil]; rfl), by first | rfl | simp, by omega, by have hz := (Sep.del (Sep.front (i := 5) (Sep.front (i := 5) (Sep.front (i := 5) (Sep.front (i := 2) (Sep.front (i := 2) (Sep.front (i := 5) hs17 rfl) rfl) rfl) rfl) rfl) rfl) 6); rw [← List.append_nil ((exF y x.uids).1 ++ exLine y (exF y x.uids).2)] at hz; exact hz⟩ ?_
        rintro n T Hl3 Kk30 k30 ⟨i, al, cl, rfl, hn2, hi, hs26⟩
        have hls := (exF_lens y x.uids).1
        have hfl := feL_len (vm := x.mod) (ms := y.mails) (i := i)
        have hxl := exLine_len (b := y) (kept := (exF y x.uids).2)
        refine CWp.seqK fun Kk31 k31 => ?_
        refine CWp.seqK fun Kk32 k32 => ?_
        refine CWp.regionW [2, 3, 4, 6, 9, 10, 89] ?_
        refine VC.s rfl (RVs.move rfl rfl (fun _ => rfl) ?_)
        refine VC.s rfl (RVs.fieldAddr rfl FieldOf.h (by decide) rfl (fun _ => rfl) ?_)
        refine VC.s rfl (RVs.load rfl TyOf.h rfl (fun _ => ⟨rfl, (Sep.at_ (i := 1) hs26 rfl), rw_live, rfl⟩) ?_)
        refine VC.s rfl (RVs.len_slice rfl UnSl.h rfl (fun _ => rfl) ?_)
        refine VC.s rfl (RVs.bin rfl rfl rfl rfl (fun _ => ⟨⟨rfl, rfl⟩, rfl⟩) ?_)
        refine VC.nil (k32 ⟨116, [(2, _), (3, _), (4, _), (6, _), (9, _), (10, _), (89, _)]⟩ _ ?_)
        refine CWp.condV rfl (fun hc5 => ?_) (fun hc5 => ?_)
        · try simp at hc5
          refine CWp.skip ?_
          refine k31 _ _ ?_
          refine CWp.seqK fun Kk33 k33 => ?_
          refine CWp.block ?_
          refine CWp.seqK fun Kk34 k34 => ?_
          refine CWp.regionW [2, 3, 4, 6, 9, 10, 11] ?_
          refine VC.s rfl (RVs.fieldAddr rfl FieldOf.h (by decide) rfl (fun _ => rfl) ?_)
          refine VC.s rfl (RVs.load rfl TyOf.h rfl (fun _ => ⟨rfl, (Sep.at_ (i := 1) hs26 rfl), rw_live, rfl⟩) ?_)
          refine VC.s rfl (RVs.move rfl rfl (fun _ => rfl) ?_)
          refine VC.s rfl (RVs.indexS rfl (hS_y_mails.mono (hle (hs26.pre))) rfl ElemOf.h rfl (fun _ => ⟨⟨rfl, rfl⟩, by omega, by omega⟩) ?_)
          intro id3 j3 u3 B3 e4
          obtain ⟨y3, hy3, e4⟩ := e4 rfl
          try simp only [Int.toNat_natCast] at hy3
          obtain ⟨rfl, hwy3⟩ := e4.r
          refine VC.s rfl (RVs.loadE (k := kMail) rfl TyOf.h rfl (fun _ => ⟨rfl, e4⟩) ?_)
          refine VC.s rfl (RVs.alloc ZeroOf.h TyOf.h rfl rfl ?_)
          intro b12 H23 g14 l12 a12
          have e5 := EP.mono (hle g14) e4
          have hs27 := Sep.addB hs26 g14 l12 a12
          refine VC.s rfl (RVs.storeBN (i := 0) hs27 rfl rfl rfl TyOf.h rfl rfl rfl ⟨rfl, rfl⟩ rfl (Nat.le_of_ble_eq_true rfl) rfl ?_)
          intro H24 hs28
          refine VC.nil (k34 ⟨116, [(2, _), (3, _), (4, _), (6, _), (9, _), (10, _), (11, _)]⟩ _ ?_)
          refine CWp.seqK fun Kk35 k35 => ?_
          refine CWp.regionW [2, 3, 4, 6, 9, 10, 11, 101] ?_
          refine VC.s rfl (RVs.fieldAddr rfl FieldOf.h (by decide) rfl (fun _ => rfl) ?_)
          refine VC.s rfl (RVs.load rfl TyOf.h rfl (fun _ => ⟨rfl, (Sep.at_ (i := 0) hs28 rfl), rw_live, rfl⟩) ?_)
          refine VC.s rfl (RVs.fieldAddr rfl FieldOf.h (by decide) rfl (fun _ => rfl) ?_)
          refine VC.s rfl (RVs.load rfl TyOf.h rfl (fun _ => ⟨rfl, (Sep.at_ (i := 1) hs28 rfl), rw_live, rfl⟩) ?_)
          refine VC.s rfl (RVs.bin rfl rfl rfl rfl (fun _ => ⟨⟨rfl, rfl⟩, rfl⟩) ?_)
          refine VC.nil (k35 ⟨116, [(2, _), (3, _), (4, _), (6, _), (9, _), (10, _), (11, _), (101, _)]⟩ _ ?_)
          refine CWp.condV rfl (fun hc6 => ?_) (fun hc6 => ?_)
          · have hfe := feAt_yes (vm := x.mod) hy3 (of_decide_eq_true hc6)
            refine CWp.regionW [2, 3, 4, 6, 9, 10] ?_
            refine VC.s rfl (RVs.move rfl rfl (fun _ => rfl) ?_)
            refine VC.s rfl (RVs.move rfl rfl (fun _ => rfl) ?_)
            refine VC.s rfl (RVs.arith (r := ((i : Int) + 1)) rfl rfl rfl (by (try simp only [bl_bs]); first | exact wrap_in (by omega) | (rw [wrap_in (by omega)]; omega)) rfl (fun _ => ⟨⟨rfl, rfl⟩, rfl⟩) ?_)
            refine VC.s rfl (RVs.fieldAddr rfl FieldOf.h (by decide) rfl (fun _ => rfl) ?_)
            refine VC.s rfl (RVs.load rfl TyOf.h rfl (fun _ => ⟨rfl, (Sep.at_ (i := 0) hs28 rfl), rw_live, rfl⟩) ?_)
            refine VC.s rfl (RVs.fieldAddr rfl FieldOf.h (by decide) rfl (fun _ => rfl) ?_)
            refine VC.s rfl (RVs.load rfl TyOf.h rfl (fun _ => ⟨rfl, (Sep.at_ (i := 0) hs28 rfl), rw_live, rfl⟩) ?_)
            refine VC.s rfl (RVs.fieldAddr rfl FieldOf.h (by decide) rfl (fun _ => rfl) ?_)
            refine VC.s rfl (RVs.load rfl TyOf.h rfl (fun _ => ⟨rfl, (Sep.at_ (i := 0) hs28 rfl), rw_live, rfl⟩) ?_)
            refine VC.s rfl (RVs.build rfl ZeroOf.h rfl FieldsOk.h rfl (fun _ => rfl) ?_)
            refine VC.s rfl (RVs.buildS ElemOf.h ZeroOf.h rfl rfl rfl (by decide) rfl rfl rfl ?_)
            intro b13 H25 g15 l13 a13
            have hs29 := Sep.grow hs28 g15
            refine VC.s rfl (RVs.appendZ (k := kLine0) (zs := ((exF y x.uids).1 ++ exLine y (exF y x.uids).2) ++ feL x.mod y.mails (i + 1)) Kd.flat_Flat (i := 6) hs29 rfl rfl rfl ElemOf.h ElOk.h UnSl.h rfl rfl rfl ⟨rfl, rfl⟩ (lit_S (k := kLine0) (xs := [lnFetch y3 ((i : Int) + 1)]) a13 (Kd.Rs.one ⟨rfl, rfl⟩) rfl (by decide)) (by rw [feL_step, hfe, List.append_assoc]) (small_of (by simp only [List.length_append, List.length_cons, List.length_nil]; omega) (by decide)) ?_)
            intro ad9 cp9 H26 hcp7 hs30
            refine VC.s rfl (RVs.assign rfl rfl (fun _ => rfl) ?_)
            refine VC.nil (k33 ⟨116, [(2, _), (3, _), (4, _), (6, _), (9, _), (10, _)]⟩ _ ?_)
            refine CWp.regionW [2, 3, 4, 6, 9, 10] ?_
            refine VC.s rfl (RVs.move rfl rfl (fun _ => rfl) ?_)
            refine VC.s rfl (RVs.arith (r := ((i + 1 : Nat) : Int)) rfl rfl rfl (by (try simp only [bl_bs]); first | exact wrap_in (by omega) | (rw [wrap_in (by omega)]; omega)) rfl (fun _ => ⟨⟨rfl, rfl⟩, rfl⟩) ?_)
            refine VC.s rfl (RVs.assign rfl rfl (fun _ => rfl) ?_)
            refine VC.nil (k30 _ ⟨116, [(2, _), (3, _), (4, _), (6, _), (9, _), (10, _)]⟩ _ ?_ ⟨i + 1, _, _, by first | rfl | (rw [feL_step, hfe, List.append_nil]; done) | (rw [feL_step, hfe, List.append_nil]; rfl), rfl, by omega, by first | exact (Sep.del hs30 0) | (rw [feL_step, hfe, List.append_nil]; exact (Sep.del hs30 0))⟩)
            omega
          · have hfe := feAt_no (vm := x.mod) hy3 (of_decide_eq_false hc6)
            refine CWp.skip ?_
            refine k33 _ _ ?_
            refine CWp.regionW [2, 3, 4, 6, 9, 10] ?_
            refine VC.s rfl (RVs.move rfl rfl (fun _ => rfl) ?_)
            refine VC.s rfl (RVs.arith (r := ((i + 1 : Nat) : Int)) rfl rfl rfl (by (try simp only [bl_bs]); first | exact wrap_in (by omega) | (rw [wrap_in (by omega)]; omega)) rfl (fun _ => ⟨⟨rfl, rfl⟩, rfl⟩) ?_)
            refine VC.s rfl (RVs.assign rfl rfl (fun _ => rfl) ?_)
            refine VC.nil (k30 _ ⟨116, [(2, _), (3, _), (4, _), (6, _), (9, _), (10, _)]⟩ _ ?_ ⟨i + 1, _, _, by first | rfl | (rw [feL_step, hfe, List.append_nil]; done) | (rw [feL_step, hfe, List.append_nil]; rfl), rfl, by omega, by first | exact (Sep.del hs28 0) | (rw [feL_step, hfe, List.append_nil]; exact (Sep.del hs28 0))⟩)
            omega
        · try simp at hc5
          refine CWp.exit ?_
          refine k28 _ _ ?_
          refine CWp.seqK fun Kk36 k36 => ?_
          refine CWp.regionW [4, 5] ?_
          refine VC.s rfl (RVs.load_agg rfl TyOf.h rfl (fun _ => ⟨rfl, (Sep.at_ (i := 3) hs26 rfl), rw_live, Nat.le_of_ble_eq_true rfl, rfl⟩) ?_)
          refine VC.s rfl (RVs.move rfl rfl (fun _ => rfl) ?_)
          refine VC.s rfl (RVs.storeBN (i := 2) hs26 rfl rfl rfl TyOf.h rfl rfl rfl ⟨rfl, rfl⟩ rfl (Nat.le_of_ble_eq_true rfl) rfl ?_)
          intro H27 hs31
          refine VC.s rfl (RVs.assign rfl rfl (fun _ => rfl) ?_)
          refine VC.nil (k36 ⟨116, [(4, _), (5, _)]⟩ _ ?_)
          refine CWp.ret (q _ _ _ (.cons (.cells rfl (Ty.of TyOf.h) (Sep.at_ (i := 2) hs31 rfl) rw_live (Nat.le_of_ble_eq_true rfl)) (.cons (.tmp rfl) .nil)) ?_).1
          have hil : i = y.mails.length := by omega
          rw [hil] at hs31
          rw [htv, hil]
          exact ⟨_, _, rfl, Sep.fresh (i := 0) (Sep.join (Sep.del (Sep.del (Sep.del (Sep.del (Sep.front (i := 5) (Sep.front (i := 4) (Sep.toV (i := 5) hs31 rfl) rfl) rfl) 5) 4) 3) 2)) rfl⟩

end Go.Proofs.Ytaccaelocddakaa
