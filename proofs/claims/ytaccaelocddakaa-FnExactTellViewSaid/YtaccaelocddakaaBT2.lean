/- The walks of the functions that copy boxes, and look whether they are right. -/
import Derived.Test.YtaccaelocddakaaBT1
namespace Go.Proofs.Ytaccaelocddakaa
open Go Go.RowKit
set_option linter.unusedVariables false
set_option maxRecDepth 20000
variable [Tabs]

theorem toBox (x : Box) (x_mails x_tombs : Value) (H : AH) (hS_x_mails : kMail.S H x_mails x.mails) (hS_x_tombs : kTomb.S H x_tombs x.tombs) (hn : x.mails.length ≤ 1048576) (hm : x.tombs.length ≤ 1048576) : FWp Try.prog 21 [.agg #[.string (bs x.name), .int .i64 x.valid, .int .i64 x.next, .int .i64 x.mod, x_mails, x_tombs, .int .i64 x.horizon]] H (fun v' H' => ∃ v w, v' = .agg #[.string (bs x.name), .int .i64 x.valid, .int .i64 x.next, .int .i64 x.mod, v, w, .int .i64 x.horizon] ∧ FreshP ((pVal kTomb.slice [w] x.tombs).star (pVal kMail.slice [v] x.mails)) H H') := by
  refine FWp.enterK Try.func21 rfl (by decide +kernel) rfl rfl fun Q q => ?_
  have hs0 := Sep.nil (H := H)
  refine CWp.seqK fun Kk1 k1 => ?_
  refine CWp.regionW [1, 2] ?_
  refine VC.s rfl (RVs.box rfl TyOf.h rfl rfl rfl ?_)
  intro b1 H1 g1 l1 a1
  have hs1 := Sep.addB hs0 g1 l1 a1
  refine VC.s rfl (RVs.alloc ZeroOf.h TyOf.h rfl rfl ?_)
  intro b2 H2 g2 l2 a2
  have hs2 := Sep.addB hs1 g2 l2 a2
  refine VC.nil (k1 ⟨28, [(1, _), (2, _)]⟩ _ ?_)
  refine CWp.seqK fun Kk2 k2 => ?_
  refine CWp.regionW [1, 2, 3] ?_
  refine VC.s rfl (RVs.alloc ZeroOf.h TyOf.h rfl rfl ?_)
  intro b3 H3 g3 l3 a3
  have hs3 := Sep.addB hs2 g3 l3 a3
  refine VC.nil (k2 ⟨28, [(1, _), (2, _), (3, _)]⟩ _ ?_)
  refine CWp.seqK fun Kk3 k3 => ?_
  refine CWp.regionW [1, 2, 3] ?_
  refine VC.s rfl (RVs.fieldAddr rfl FieldOf.h (by decide) rfl (fun _ => rfl) ?_)
  refine VC.s rfl (RVs.load rfl TyOf.h rfl (fun _ => ⟨rfl, (Sep.at_ (i := 2) hs3 rfl), rw_live, rfl⟩) ?_)
  refine VC.s rfl (RVs.fieldAddr rfl FieldOf.h (by decide) rfl (fun _ => rfl) ?_)
  refine VC.s rfl (RVs.storeB (i := 0) hs3 rfl rfl rfl TyOf.h rfl rfl rfl ⟨rfl, rfl⟩ (Nat.le_of_ble_eq_true rfl) rfl ?_)
  intro H4 hs4
  refine VC.nil (k3 ⟨28, [(1, _), (2, _), (3, _)]⟩ _ ?_)
  refine CWp.seqK fun Kk4 k4 => ?_
  refine CWp.regionW [1, 2, 3] ?_
  refine VC.s rfl (RVs.fieldAddr rfl FieldOf.h (by decide) rfl (fun _ => rfl) ?_)
  refine VC.s rfl (RVs.load rfl TyOf.h rfl (fun _ => ⟨rfl, (Sep.at_ (i := 2) hs4 rfl), rw_live, rfl⟩) ?_)
  refine VC.s rfl (RVs.fieldAddr rfl FieldOf.h (by decide) rfl (fun _ => rfl) ?_)
  refine VC.s rfl (RVs.storeB (i := 0) hs4 rfl rfl rfl TyOf.h rfl rfl rfl ⟨rfl, rfl⟩ (Nat.le_of_ble_eq_true rfl) rfl ?_)
  intro H5 hs5
  refine VC.nil (k4 ⟨28, [(1, _), (2, _), (3, _)]⟩ _ ?_)
  refine CWp.seqK fun Kk5 k5 => ?_
  refine CWp.regionW [1, 2, 3] ?_
  refine VC.s rfl (RVs.fieldAddr rfl FieldOf.h (by decide) rfl (fun _ => rfl) ?_)
  refine VC.s rfl (RVs.load rfl TyOf.h rfl (fun _ => ⟨rfl, (Sep.at_ (i := 2) hs5 rfl), rw_live, rfl⟩) ?_)
  refine VC.s rfl (RVs.fieldAddr rfl FieldOf.h (by decide) rfl (fun _ => rfl) ?_)
  refine VC.s rfl (RVs.storeB (i := 0) hs5 rfl rfl rfl TyOf.h rfl rfl rfl ⟨rfl, rfl⟩ (Nat.le_of_ble_eq_true rfl) rfl ?_)
  intro H6 hs6
  refine VC.nil (k5 ⟨28, [(1, _), (2, _), (3, _)]⟩ _ ?_)
  refine CWp.seqK fun Kk6 k6 => ?_
  refine CWp.regionW [1, 2, 3] ?_
  refine VC.s rfl (RVs.fieldAddr rfl FieldOf.h (by decide) rfl (fun _ => rfl) ?_)
  refine VC.s rfl (RVs.load rfl TyOf.h rfl (fun _ => ⟨rfl, (Sep.at_ (i := 2) hs6 rfl), rw_live, rfl⟩) ?_)
  refine VC.s rfl (RVs.fieldAddr rfl FieldOf.h (by decide) rfl (fun _ => rfl) ?_)
  refine VC.s rfl (RVs.storeB (i := 0) hs6 rfl rfl rfl TyOf.h rfl rfl rfl ⟨rfl, rfl⟩ (Nat.le_of_ble_eq_true rfl) rfl ?_)
  intro H7 hs7
  refine VC.nil (k6 ⟨28, [(1, _), (2, _), (3, _)]⟩ _ ?_)
  refine CWp.seqK fun Kk7 k7 => ?_
  refine CWp.regionW [1, 2, 3] ?_
  refine VC.s rfl (RVs.fieldAddr rfl FieldOf.h (by decide) rfl (fun _ => rfl) ?_)
  refine VC.s rfl (RVs.load rfl TyOf.h rfl (fun _ => ⟨rfl, (Sep.at_ (i := 2) hs7 rfl), rw_live, rfl⟩) ?_)
  refine VC.s rfl (RVs.call rfl rfl rfl rfl ⟨rfl, rfl⟩ (toMailS _ _ _ (hS_x_mails.mono (hle (hs7.pre))) hn) (.inr fun _ _ h => h.1) ?_)
  rintro v1 H8 f1
  have g4 := (Fresh.P f1).1
  have hs8 := Sep.addP hs7 (Fresh.P f1)
  refine VC.s rfl (RVs.fieldAddr rfl FieldOf.h (by decide) rfl (fun _ => rfl) ?_)
  refine VC.s rfl (RVs.storeB (i := 1) hs8 rfl rfl rfl TyOf.h rfl rfl rfl ⟨rfl, rfl⟩ (Nat.le_of_ble_eq_true rfl) ((Sep.VS (i := 0) hs8 rfl)).oc ?_)
  intro H9 hs9
  refine VC.nil (k7 ⟨28, [(1, _), (2, _), (3, _)]⟩ _ ?_)
  refine CWp.seqK fun Kk8 k8 => ?_
  refine CWp.regionW [1, 2, 3] ?_
  refine VC.s rfl (RVs.fieldAddr rfl FieldOf.h (by decide) rfl (fun _ => rfl) ?_)
  refine VC.s rfl (RVs.load rfl TyOf.h rfl (fun _ => ⟨rfl, (Sep.at_ (i := 3) hs9 rfl), rw_live, rfl⟩) ?_)
  refine VC.s rfl (RVs.call rfl rfl rfl rfl ⟨rfl, rfl⟩ (toTombS _ _ _ (hS_x_tombs.mono (hle (hs9.pre))) hm) (.inr fun _ _ h => h.1) ?_)
  rintro v2 H10 f2
  have g5 := (Fresh.P f2).1
  have hs10 := Sep.addP hs9 (Fresh.P f2)
  refine VC.s rfl (RVs.fieldAddr rfl FieldOf.h (by decide) rfl (fun _ => rfl) ?_)
  refine VC.s rfl (RVs.storeB (i := 2) hs10 rfl rfl rfl TyOf.h rfl rfl rfl ⟨rfl, rfl⟩ (Nat.le_of_ble_eq_true rfl) ((Sep.VS (i := 0) hs10 rfl)).oc ?_)
  intro H11 hs11
  refine VC.nil (k8 ⟨28, [(1, _), (2, _), (3, _)]⟩ _ ?_)
  refine CWp.seqK fun Kk9 k9 => ?_
  refine CWp.regionW [2, 3] ?_
  refine VC.s rfl (RVs.fieldAddr rfl FieldOf.h (by decide) rfl (fun _ => rfl) ?_)
  refine VC.s rfl (RVs.load rfl TyOf.h rfl (fun _ => ⟨rfl, (Sep.at_ (i := 4) hs11 rfl), rw_live, rfl⟩) ?_)
  refine VC.s rfl (RVs.fieldAddr rfl FieldOf.h (by decide) rfl (fun _ => rfl) ?_)
  refine VC.s rfl (RVs.storeB (i := 2) hs11 rfl rfl rfl TyOf.h rfl rfl rfl ⟨rfl, rfl⟩ (Nat.le_of_ble_eq_true rfl) rfl ?_)
  intro H12 hs12
  refine VC.nil (k9 ⟨28, [(2, _), (3, _)]⟩ _ ?_)
  refine CWp.seqK fun Kk10 k10 => ?_
  refine CWp.regionW [2] ?_
  refine VC.s rfl (RVs.load_agg rfl TyOf.h rfl (fun _ => ⟨rfl, (Sep.at_ (i := 2) hs12 rfl), rw_live, Nat.le_of_ble_eq_true rfl, rfl⟩) ?_)
  refine VC.s rfl (RVs.storeBN (i := 3) hs12 rfl rfl rfl TyOf.h rfl rfl rfl ⟨rfl, rfl⟩ rfl (Nat.le_of_ble_eq_true rfl) (show List.all [_, _, _, _, _, _, _] oneCell = true from by simp only [List.all_cons, List.all_nil, ((Sep.VS (i := 1) hs12 rfl)).oc, ((Sep.VS (i := 0) hs12 rfl)).oc]; rfl) ?_)
  intro H13 hs13
  refine VC.nil (k10 ⟨28, [(2, _)]⟩ _ ?_)
  refine CWp.ret (q _ _ _ (.cons (.cells rfl (Ty.of TyOf.h) (Sep.at_ (i := 3) hs13 rfl) rw_live (Nat.le_of_ble_eq_true rfl)) .nil) ?_).1
  exact ⟨_, _, rfl, Sep.fresh (i := 0) (Sep.join hs13) rfl⟩

theorem sMailOk (t : List UInt8) (H : AH) (ht : t.length ≤ lim) : FWp Try.prog 95 [.string (bs t)] H (fun v' H' => v' = .bool (mailOk t) ∧ H' = H) := by
  refine FWp.pure rfl fun H ph => ?_
  unfold lim at ht
  refine FWp.enterK Try.func95 rfl (by decide +kernel) rfl rfl fun Q q => ?_
  have hs0 := Sep.nil (H := H)
  refine CWp.seqK fun Kk1 k1 => ?_
  refine CWp.regionW [0] ?_
  refine VC.s rfl (RVs.assign rfl rfl (fun _ => rfl) ?_)
  refine VC.nil (k1 ⟨17, [(0, _)]⟩ _ ?_)
  refine CWp.seqK fun Kk2 k2 => ?_
  refine CWp.seqK fun Kk3 k3 => ?_
  refine CWp.regionW [0, 3] ?_
  refine VC.s rfl (RVs.assign rfl rfl (fun _ => rfl) ?_)
  refine VC.nil (k3 ⟨17, [(0, _), (3, _)]⟩ _ ?_)
  refine CWp.block ?_
  refine CWp.loopK (fun n T H' => ∃ i : Nat, T = ⟨17, [(0, .string (bs t)), (3, .int .i64 (i : Int))]⟩ ∧ n = t.length - i ∧ (i ≤ t.length) ∧ ((t.take i).all (fun c => decide (c.toNat ≠ 0)) = true) ∧ H <+: H') (n := t.length) ⟨0, rfl, by first | rfl | simp, by omega, by simp, List.prefix_refl _⟩ ?_
  rintro n T Hl1 Kk4 k4 ⟨i, rfl, hn1, hi, ha, hs1⟩
  have hs2 := Sep.grow hs0 hs1
  have hs3 := Sep.nil (H := Hl1)
  refine CWp.seqK fun Kk5 k5 => ?_
  refine CWp.seqK fun Kk6 k6 => ?_
  refine CWp.regionW [0, 3, 7] ?_
  refine VC.s rfl (RVs.move rfl rfl (fun _ => rfl) ?_)
  refine VC.s rfl (RVs.move rfl rfl (fun _ => rfl) ?_)
  refine VC.s rfl (RVs.len_string rfl UnStr.h rfl (fun _ => rfl) ?_)
  refine VC.s rfl (RVs.bin rfl rfl rfl rfl (fun _ => ⟨⟨rfl, rfl⟩, rfl⟩) ?_)
  refine VC.nil (k6 ⟨17, [(0, _), (3, _), (7, _)]⟩ _ ?_)
  refine CWp.condV rfl (fun hc1 => ?_) (fun hc1 => ?_)
  · try simp at hc1
    refine CWp.skip ?_
    refine k5 _ _ ?_
    refine CWp.seqK fun Kk7 k7 => ?_
    refine CWp.block ?_
    refine CWp.seqK fun Kk8 k8 => ?_
    refine CWp.regionW [0, 3, 13] ?_
    refine VC.s rfl (RVs.move rfl rfl (fun _ => rfl) ?_)
    refine VC.s rfl (RVs.move rfl rfl (fun _ => rfl) ?_)
    refine VC.s rfl (RVs.index rfl rfl UnStr.h rfl (fun _ => ⟨⟨rfl, rfl⟩, by omega, by simpa using hc1⟩) ?_)
    refine VC.s rfl (RVs.bin rfl rfl rfl rfl (fun _ => ⟨⟨rfl, rfl⟩, rfl⟩) ?_)
    refine VC.nil (k8 ⟨17, [(0, _), (3, _), (13, _)]⟩ _ ?_)
    refine CWp.condV rfl (fun hc2 => ?_) (fun hc2 => ?_)
    · rw [byteAt_bs hc1] at hc2
      simp at hc2
      refine CWp.seqK fun Kk9 k9 => ?_
      refine CWp.regionW [2] ?_
      refine VC.s rfl (RVs.assign rfl rfl (fun _ => rfl) ?_)
      refine VC.nil (k9 ⟨17, [(2, _)]⟩ _ ?_)
      refine CWp.ret (q _ _ _ (.cons (.tmp rfl) .nil) ?_).1
      exact ⟨by simp only [one, mailOk]; rw [all_at (List.getElem?_eq_getElem hc1) (by simpa using hc2)]; rfl, (List.IsPrefix.trans hs2.pre (hs3.pre))⟩
    · rw [byteAt_bs hc1] at hc2
      simp at hc2
      refine CWp.skip ?_
      refine k7 _ _ ?_
      refine CWp.regionW [0, 3] ?_
      refine VC.s rfl (RVs.move rfl rfl (fun _ => rfl) ?_)
      refine VC.s rfl (RVs.arith (r := ((i + 1 : Nat) : Int)) rfl rfl rfl (by (try simp only [bl_bs]); first | exact wrap_in (by omega) | (rw [wrap_in (by omega)]; omega)) rfl (fun _ => ⟨⟨rfl, rfl⟩, rfl⟩) ?_)
      refine VC.s rfl (RVs.assign rfl rfl (fun _ => rfl) ?_)
      refine VC.nil (k4 _ ⟨17, [(0, _), (3, _)]⟩ _ ?_ ⟨i + 1, rfl, rfl, by omega, all_take_step ha (List.getElem?_eq_getElem hc1) (by simpa using hc2), List.IsPrefix.trans hs1 hs3.pre⟩)
      omega
  · try simp at hc1
    refine CWp.exit ?_
    refine k2 _ _ ?_
    refine CWp.seqK fun Kk10 k10 => ?_
    refine CWp.regionW [2] ?_
    refine VC.s rfl (RVs.move rfl rfl (fun _ => rfl) ?_)
    refine VC.s rfl (RVs.len_string rfl UnStr.h rfl (fun _ => rfl) ?_)
    refine VC.s rfl (RVs.callp rfl rfl rfl (fun _ => ⟨⟨rfl, rfl⟩, l01In _ _ _ _⟩) ?_)
    refine VC.s rfl (RVs.assign rfl rfl (fun _ => rfl) ?_)
    refine VC.nil (k10 ⟨17, [(2, _)]⟩ _ ?_)
    refine CWp.ret (q _ _ _ (.cons (.tmp rfl) .nil) ?_).1
    exact ⟨by simp only [one, mailOk, bl_bs]; rw [all_take_end ha (by omega)]; exact congrArg Value.bool (decide_eq_decide.2 (by omega)), (List.IsPrefix.trans hs2.pre (hs3.pre))⟩

theorem l08HasMail (x : Box) (x_mails x_tombs : Value) (uid : Int) (H : AH) (hS : kMail.S H x_mails x.mails) : FWp Try.prog 55 [.agg #[.string (bs x.name), .int .i64 x.valid, .int .i64 x.next, .int .i64 x.mod, x_mails, x_tombs, .int .i64 x.horizon], .int .i64 uid] H (fun v' H' => v' = .bool (hasMail x uid) ∧ H' = H) := by
  refine FWp.pure rfl fun H ph => ?_
  replace hS := hS.mono (hle ph)
  have hSl := hS.lim
  unfold lim at hSl
  obtain ⟨aa, ca, rfl, hSc⟩ := hS.form
  refine FWp.enterK Try.func55 rfl (by decide +kernel) rfl rfl fun Q q => ?_
  have hs0 := Sep.nil (H := H)
  refine CWp.seqK fun Kk1 k1 => ?_
  refine CWp.regionW [1, 2] ?_
  refine VC.s rfl (RVs.box rfl TyOf.h rfl rfl rfl ?_)
  intro b1 H1 g1 l1 a1
  have hs1 := Sep.addB hs0 g1 l1 a1
  refine VC.s rfl (RVs.assign rfl rfl (fun _ => rfl) ?_)
  refine VC.nil (k1 ⟨21, [(1, _), (2, _)]⟩ _ ?_)
  refine CWp.seqK fun Kk2 k2 => ?_
  refine CWp.seqK fun Kk3 k3 => ?_
  refine CWp.regionW [1, 2, 5] ?_
  refine VC.s rfl (RVs.assign rfl rfl (fun _ => rfl) ?_)
  refine VC.nil (k3 ⟨21, [(1, _), (2, _), (5, _)]⟩ _ ?_)
  refine CWp.block ?_
  refine CWp.loopK (fun n T H' => ∃ i : Nat, T = ⟨21, [(1, .int .i64 uid), (2, .pointer (some ⟨b1, 0, none⟩)), (5, .int .i64 (i : Int))]⟩ ∧ n = x.mails.length - i ∧ (i ≤ x.mails.length) ∧ ((x.mails.take i).any (fun m => decide (m.uid = uid)) = false) ∧ H1 <+: H') (n := x.mails.length) ⟨0, rfl, by first | rfl | simp, by omega, by simp, List.prefix_refl _⟩ ?_
  rintro n T Hl1 Kk4 k4 ⟨i, rfl, hn1, hi, ha, hs2⟩
  have hs3 := Sep.grow hs1 hs2
  have hs4 := Sep.nil (H := Hl1)
  refine CWp.seqK fun Kk5 k5 => ?_
  refine CWp.seqK fun Kk6 k6 => ?_
  refine CWp.regionW [1, 2, 5, 10] ?_
  refine VC.s rfl (RVs.move rfl rfl (fun _ => rfl) ?_)
  refine VC.s rfl (RVs.fieldAddr rfl FieldOf.h (by decide) rfl (fun _ => rfl) ?_)
  refine VC.s rfl (RVs.load rfl TyOf.h rfl (fun _ => ⟨rfl, (get_prefix (hs4.pre) (Sep.at_ (i := 0) hs3 rfl)), rw_live, rfl⟩) ?_)
  refine VC.s rfl (RVs.len_slice rfl UnSl.h rfl (fun _ => rfl) ?_)
  refine VC.s rfl (RVs.bin rfl rfl rfl rfl (fun _ => ⟨⟨rfl, rfl⟩, rfl⟩) ?_)
  refine VC.nil (k6 ⟨21, [(1, _), (2, _), (5, _), (10, _)]⟩ _ ?_)
  refine CWp.condV rfl (fun hc1 => ?_) (fun hc1 => ?_)
  · try simp at hc1
    refine CWp.skip ?_
    refine k5 _ _ ?_
    refine CWp.seqK fun Kk7 k7 => ?_
    refine CWp.block ?_
    refine CWp.seqK fun Kk8 k8 => ?_
    refine CWp.regionW [1, 2, 5, 20] ?_
    refine VC.s rfl (RVs.fieldAddr rfl FieldOf.h (by decide) rfl (fun _ => rfl) ?_)
    refine VC.s rfl (RVs.load rfl TyOf.h rfl (fun _ => ⟨rfl, (get_prefix (hs4.pre) (Sep.at_ (i := 0) hs3 rfl)), rw_live, rfl⟩) ?_)
    refine VC.s rfl (RVs.move rfl rfl (fun _ => rfl) ?_)
    refine VC.s rfl (RVs.indexS rfl (hS.mono (hle (List.IsPrefix.trans hs3.pre (hs4.pre)))) rfl ElemOf.h rfl (fun _ => ⟨⟨rfl, rfl⟩, by omega, by omega⟩) ?_)
    intro id1 j1 u1 B1 e1
    obtain ⟨y1, hy1, e1⟩ := e1 rfl
    try simp only [Int.toNat_natCast] at hy1
    obtain ⟨rfl, hwy1⟩ := e1.r
    refine VC.s rfl (RVs.fieldAddr rfl FieldOf.h (by decide) rfl (fun _ => rfl) ?_)
    refine VC.s rfl (RVs.loadF (k := kMail) (f := 0) rfl TyOf.h rfl (fun _ => ⟨rfl, e1, by decide, rfl⟩) ?_)
    refine VC.s rfl (RVs.move rfl rfl (fun _ => rfl) ?_)
    refine VC.s rfl (RVs.bin rfl rfl rfl rfl (fun _ => ⟨⟨rfl, rfl⟩, rfl⟩) ?_)
    refine VC.nil (k8 ⟨21, [(1, _), (2, _), (5, _), (20, _)]⟩ _ ?_)
    refine CWp.condV rfl (fun hc2 => ?_) (fun hc2 => ?_)
    · try simp at hc2
      refine CWp.seqK fun Kk9 k9 => ?_
      refine CWp.regionW [4] ?_
      refine VC.s rfl (RVs.assign rfl rfl (fun _ => rfl) ?_)
      refine VC.nil (k9 ⟨21, [(4, _)]⟩ _ ?_)
      refine CWp.ret (q _ _ _ (.cons (.tmp rfl) .nil) ?_).1
      exact ⟨by simp only [one, hasMail]; rw [any_at hy1 (by simpa using hc2)], (List.IsPrefix.trans hs3.pre (hs4.pre))⟩
    · try simp at hc2
      refine CWp.skip ?_
      refine k7 _ _ ?_
      refine CWp.regionW [1, 2, 5] ?_
      refine VC.s rfl (RVs.move rfl rfl (fun _ => rfl) ?_)
      refine VC.s rfl (RVs.arith (r := ((i + 1 : Nat) : Int)) rfl rfl rfl (by (try simp only [bl_bs]); first | exact wrap_in (by omega) | (rw [wrap_in (by omega)]; omega)) rfl (fun _ => ⟨⟨rfl, rfl⟩, rfl⟩) ?_)
      refine VC.s rfl (RVs.assign rfl rfl (fun _ => rfl) ?_)
      refine VC.nil (k4 _ ⟨21, [(1, _), (2, _), (5, _)]⟩ _ ?_ ⟨i + 1, rfl, rfl, by omega, any_take_step ha hy1 (by simpa using hc2), List.IsPrefix.trans hs2 hs4.pre⟩)
      omega
  · try simp at hc1
    refine CWp.exit ?_
    refine k2 _ _ ?_
    refine CWp.seqK fun Kk10 k10 => ?_
    refine CWp.regionW [4] ?_
    refine VC.s rfl (RVs.assign rfl rfl (fun _ => rfl) ?_)
    refine VC.nil (k10 ⟨21, [(4, _)]⟩ _ ?_)
    refine CWp.ret (q _ _ _ (.cons (.tmp rfl) .nil) ?_).1
    exact ⟨by simp only [one, hasMail]; rw [any_end ha (by omega)], (List.IsPrefix.trans hs3.pre (hs4.pre))⟩

end Go.Proofs.Ytaccaelocddakaa
