/- The walk of the reference BoxOk. -/
import Derived.Test.YtaccaelocddakaaBT2
namespace Go.Proofs.Ytaccaelocddakaa
open Go Go.RowKit
set_option linter.unusedVariables false
set_option maxRecDepth 20000
variable [Tabs]

theorem sBoxOk (x : Box) (x_mails x_tombs : Value) (H : AH) (hS_x_mails : kMail.S H x_mails x.mails) (hS_x_tombs : kTomb.S H x_tombs x.tombs) (hb_x_name : x.name.length ≤ lim) : FWp Try.prog 54 [.agg #[.string (bs x.name), .int .i64 x.valid, .int .i64 x.next, .int .i64 x.mod, x_mails, x_tombs, .int .i64 x.horizon]] H (fun v' H' => v' = .bool (boxOk x) ∧ H' = H) := by
  refine FWp.pure rfl fun H ph => ?_
  replace hS_x_mails := hS_x_mails.mono (hle ph)
  replace hS_x_tombs := hS_x_tombs.mono (hle ph)
  have hS_x_mailsl := hS_x_mails.lim
  unfold lim at hS_x_mailsl
  obtain ⟨aa, ca, rfl, hS_x_mailsc⟩ := hS_x_mails.form
  have hS_x_tombsl := hS_x_tombs.lim
  unfold lim at hS_x_tombsl
  obtain ⟨ab, cb, rfl, hS_x_tombsc⟩ := hS_x_tombs.form
  refine FWp.enterK Try.func54 rfl (by decide +kernel) rfl rfl fun Q q => ?_
  have hs0 := Sep.nil (H := H)
  refine CWp.seqK fun Kk1 k1 => ?_
  refine CWp.regionW [1] ?_
  refine VC.s rfl (RVs.box rfl TyOf.h rfl rfl rfl ?_)
  intro b1 H1 g1 l1 a1
  have hs1 := Sep.addB hs0 g1 l1 a1
  refine VC.s rfl (RVs.assign rfl rfl (fun _ => rfl) ?_)
  refine VC.nil (k1 ⟨196, [(1, _)]⟩ _ ?_)
  refine CWp.seqK fun Kk2 k2 => ?_
  refine CWp.seqK fun Kk3 k3 => ?_
  refine CWp.regionW [1, 49] ?_
  refine VC.s rfl (RVs.fieldAddr rfl FieldOf.h (by decide) rfl (fun _ => rfl) ?_)
  refine VC.s rfl (RVs.load rfl TyOf.h rfl (fun _ => ⟨rfl, (Sep.at_ (i := 0) hs1 rfl), rw_live, rfl⟩) ?_)
  refine VC.s rfl (RVs.callp rfl rfl rfl (fun _ => ⟨⟨rfl, rfl⟩, sBoxName _ _ hb_x_name⟩) ?_)
  refine VC.s rfl (RVs.not rfl rfl (fun _ => rfl) ?_)
  refine VC.s rfl (RVs.move rfl rfl (fun _ => rfl) ?_)
  refine VC.s rfl (RVs.fieldAddr rfl FieldOf.h (by decide) rfl (fun hg => rfl) ?_)
  refine VC.s rfl (RVs.load rfl TyOf.h rfl (fun hg => ⟨hg, (Sep.at_ (i := 0) hs1 rfl), rw_live, rfl⟩) ?_)
  refine VC.s rfl (RVs.callp rfl rfl rfl (fun hg => ⟨⟨rfl, (GF.conds_cons hg (GF.conds_cons rfl (GF.conds_cons rfl rfl)))⟩, l01In _ _ _ _⟩) ?_)
  refine VC.s rfl (RVs.not rfl rfl (fun hg => hg) ?_)
  refine VC.s rfl (RVs.pick rfl rfl rfl rfl (fun hg => ⟨rfl, fun _ => rfl, fun hh => pk_f hh rfl⟩) ?_)
  refine VC.s rfl (RVs.move rfl rfl (fun _ => rfl) ?_)
  refine VC.s rfl (RVs.fieldAddr rfl FieldOf.h (by decide) rfl (fun hg => rfl) ?_)
  refine VC.s rfl (RVs.load rfl TyOf.h rfl (fun hg => ⟨hg, (Sep.at_ (i := 0) hs1 rfl), rw_live, rfl⟩) ?_)
  refine VC.s rfl (RVs.callp rfl rfl rfl (fun hg => ⟨⟨rfl, (GF.conds_cons hg (GF.conds_cons rfl (GF.conds_cons rfl rfl)))⟩, l01In _ _ _ _⟩) ?_)
  refine VC.s rfl (RVs.not rfl rfl (fun hg => hg) ?_)
  refine VC.s rfl (RVs.pick rfl rfl rfl rfl (fun hg => ⟨rfl, fun _ => rfl, fun hh => pk_f hh rfl⟩) ?_)
  refine VC.s rfl (RVs.move rfl rfl (fun _ => rfl) ?_)
  refine VC.s rfl (RVs.fieldAddr rfl FieldOf.h (by decide) rfl (fun hg => rfl) ?_)
  refine VC.s rfl (RVs.load rfl TyOf.h rfl (fun hg => ⟨hg, (Sep.at_ (i := 0) hs1 rfl), rw_live, rfl⟩) ?_)
  refine VC.s rfl (RVs.callp rfl rfl rfl (fun hg => ⟨⟨rfl, (GF.conds_cons hg (GF.conds_cons rfl (GF.conds_cons rfl rfl)))⟩, l01In _ _ _ _⟩) ?_)
  refine VC.s rfl (RVs.not rfl rfl (fun hg => hg) ?_)
  refine VC.s rfl (RVs.pick rfl rfl rfl rfl (fun hg => ⟨rfl, fun _ => rfl, fun hh => pk_f hh rfl⟩) ?_)
  refine VC.s rfl (RVs.move rfl rfl (fun _ => rfl) ?_)
  refine VC.s rfl (RVs.fieldAddr rfl FieldOf.h (by decide) rfl (fun hg => rfl) ?_)
  refine VC.s rfl (RVs.load rfl TyOf.h rfl (fun hg => ⟨hg, (Sep.at_ (i := 0) hs1 rfl), rw_live, rfl⟩) ?_)
  refine VC.s rfl (RVs.len_slice rfl UnSl.h rfl (fun hg => hg) ?_)
  refine VC.s rfl (RVs.bin rfl rfl rfl rfl (fun hg => ⟨⟨hg, rfl⟩, rfl⟩) ?_)
  refine VC.s rfl (RVs.pick rfl rfl rfl rfl (fun hg => ⟨rfl, fun _ => rfl, fun hh => pk_f hh rfl⟩) ?_)
  refine VC.s rfl (RVs.move rfl rfl (fun _ => rfl) ?_)
  refine VC.s rfl (RVs.fieldAddr rfl FieldOf.h (by decide) rfl (fun hg => rfl) ?_)
  refine VC.s rfl (RVs.load rfl TyOf.h rfl (fun hg => ⟨hg, (Sep.at_ (i := 0) hs1 rfl), rw_live, rfl⟩) ?_)
  refine VC.s rfl (RVs.len_slice rfl UnSl.h rfl (fun hg => hg) ?_)
  refine VC.s rfl (RVs.bin rfl rfl rfl rfl (fun hg => ⟨⟨hg, rfl⟩, rfl⟩) ?_)
  refine VC.s rfl (RVs.pick rfl rfl rfl rfl (fun hg => ⟨rfl, fun _ => rfl, fun hh => pk_f hh rfl⟩) ?_)
  refine VC.s rfl (RVs.move rfl rfl (fun _ => rfl) ?_)
  refine VC.s rfl (RVs.fieldAddr rfl FieldOf.h (by decide) rfl (fun hg => rfl) ?_)
  refine VC.s rfl (RVs.load rfl TyOf.h rfl (fun hg => ⟨hg, (Sep.at_ (i := 0) hs1 rfl), rw_live, rfl⟩) ?_)
  refine VC.s rfl (RVs.fieldAddr rfl FieldOf.h (by decide) rfl (fun hg => rfl) ?_)
  refine VC.s rfl (RVs.load rfl TyOf.h rfl (fun hg => ⟨hg, (Sep.at_ (i := 0) hs1 rfl), rw_live, rfl⟩) ?_)
  refine VC.s rfl (RVs.callp rfl rfl rfl (fun hg => ⟨⟨rfl, (GF.conds_cons hg (GF.conds_cons rfl (GF.conds_cons hg rfl)))⟩, l01In _ _ _ _⟩) ?_)
  refine VC.s rfl (RVs.not rfl rfl (fun hg => hg) ?_)
  refine VC.s rfl (RVs.pick rfl rfl rfl rfl (fun hg => ⟨rfl, fun _ => rfl, fun hh => pk_f hh rfl⟩) ?_)
  refine VC.nil (k3 ⟨196, [(1, _), (49, _)]⟩ _ ?_)
  refine CWp.condV rfl (fun hc1 => ?_) (fun hc1 => ?_)
  · have hk : boxOk x = false := by
      have := box_nums (M := (List.range x.mails.length).all (mailOkAt x)) (T := (List.range x.tombs.length).all (tombOkAt x)) hc1
      unfold boxOk numbersOk mailsOk tombsOk; rw [← dec_nlt, ← dec_nlt]; exact this
    refine CWp.seqK fun Kk4 k4 => ?_
    refine CWp.regionW [2] ?_
    refine VC.s rfl (RVs.assign rfl rfl (fun _ => rfl) ?_)
    refine VC.nil (k4 ⟨196, [(2, _)]⟩ _ ?_)
    refine CWp.ret (q _ _ _ (.cons (.tmp rfl) .nil) ?_).1
    exact ⟨by simp only [one, hk], (hs1.pre)⟩
  · simp at hc1
    refine CWp.skip ?_
    refine k2 _ _ ?_
    refine CWp.seqK fun Kk5 k5 => ?_
    refine CWp.seqK fun Kk6 k6 => ?_
    refine CWp.regionW [1, 3] ?_
    refine VC.s rfl (RVs.assign rfl rfl (fun _ => rfl) ?_)
    refine VC.nil (k6 ⟨196, [(1, _), (3, _)]⟩ _ ?_)
    refine CWp.block ?_
    refine CWp.loopK (fun n T H' => ∃ i : Nat, T = ⟨196, [(1, .pointer (some ⟨b1, 0, none⟩)), (3, .int .i64 (i : Int))]⟩ ∧ n = x.mails.length - i ∧ (i ≤ x.mails.length) ∧ (∀ j, j < i → mailOkAt x j = true) ∧ H1 <+: H') (n := x.mails.length) ⟨0, rfl, by first | rfl | simp, by omega, by intro j hj; omega, List.prefix_refl _⟩ ?_
    rintro n T Hl1 Kk7 k7 ⟨i, rfl, hn1, hi, ho, hs2⟩
    have hs3 := Sep.grow hs1 hs2
    have hs4 := Sep.nil (H := Hl1)
    refine CWp.seqK fun Kk8 k8 => ?_
    refine CWp.seqK fun Kk9 k9 => ?_
    refine CWp.regionW [1, 3, 54] ?_
    refine VC.s rfl (RVs.move rfl rfl (fun _ => rfl) ?_)
    refine VC.s rfl (RVs.fieldAddr rfl FieldOf.h (by decide) rfl (fun _ => rfl) ?_)
    refine VC.s rfl (RVs.load rfl TyOf.h rfl (fun _ => ⟨rfl, (get_prefix (hs4.pre) (Sep.at_ (i := 0) hs3 rfl)), rw_live, rfl⟩) ?_)
    refine VC.s rfl (RVs.len_slice rfl UnSl.h rfl (fun _ => rfl) ?_)
    refine VC.s rfl (RVs.bin rfl rfl rfl rfl (fun _ => ⟨⟨rfl, rfl⟩, rfl⟩) ?_)
    refine VC.nil (k9 ⟨196, [(1, _), (3, _), (54, _)]⟩ _ ?_)
    refine CWp.condV rfl (fun hc2 => ?_) (fun hc2 => ?_)
    · try simp at hc2
      refine CWp.skip ?_
      refine k8 _ _ ?_
      refine CWp.seqK fun Kk10 k10 => ?_
      refine CWp.block ?_
      refine CWp.seqK fun Kk11 k11 => ?_
      refine CWp.regionW [1, 3, 4] ?_
      refine VC.s rfl (RVs.fieldAddr rfl FieldOf.h (by decide) rfl (fun _ => rfl) ?_)
      refine VC.s rfl (RVs.load rfl TyOf.h rfl (fun _ => ⟨rfl, (get_prefix (hs4.pre) (Sep.at_ (i := 0) hs3 rfl)), rw_live, rfl⟩) ?_)
      refine VC.s rfl (RVs.move rfl rfl (fun _ => rfl) ?_)
      refine VC.s rfl (RVs.indexS rfl (hS_x_mails.mono (hle (List.IsPrefix.trans hs3.pre (hs4.pre)))) rfl ElemOf.h rfl (fun _ => ⟨⟨rfl, rfl⟩, by omega, by omega⟩) ?_)
      intro id1 j1 u1 B1 e1
      obtain ⟨y1, hy1, e1⟩ := e1 rfl
      try simp only [Int.toNat_natCast] at hy1
      obtain ⟨rfl, hwy1⟩ := e1.r
      refine VC.s rfl (RVs.loadE (k := kMail) rfl TyOf.h rfl (fun _ => ⟨rfl, e1⟩) ?_)
      refine VC.s rfl (RVs.alloc ZeroOf.h TyOf.h rfl rfl ?_)
      intro b2 H2 g2 l2 a2
      have e2 := EP.mono (hle g2) e1
      have hs5 := Sep.addB hs4 g2 l2 a2
      refine VC.s rfl (RVs.storeBN (i := 0) hs5 rfl rfl rfl TyOf.h rfl rfl rfl ⟨rfl, rfl⟩ rfl (Nat.le_of_ble_eq_true rfl) rfl ?_)
      intro H3 hs6
      refine VC.nil (k11 ⟨196, [(1, _), (3, _), (4, _)]⟩ _ ?_)
      refine CWp.seqK fun Kk12 k12 => ?_
      refine CWp.regionDW [1, 3, 104] [false, false, false, false, false, false, false, false, false, false, false, false, false, false, false, false, false, false, false, false, false, false, false, false, false, false, false, false, false, false, false, false, false, false, false, false, false, false, false, false, false, false, false] (by decide +kernel) ?_
      refine VC.s rfl (RVs.fieldAddr rfl FieldOf.h (by decide) rfl (fun _ => rfl) ?_)
      refine VC.s rfl (RVs.load rfl TyOf.h rfl (fun _ => ⟨rfl, (Sep.at_ (i := 0) hs6 rfl), rw_live, rfl⟩) ?_)
      refine VC.s rfl (RVs.fieldAddr rfl FieldOf.h (by decide) rfl (fun _ => rfl) ?_)
      refine VC.s rfl (RVs.load rfl TyOf.h rfl (fun _ => ⟨rfl, (get_prefix (hs6.pre) (Sep.at_ (i := 0) hs3 rfl)), rw_live, rfl⟩) ?_)
      refine VC.s rfl (RVs.arith (r := (x.next - 1)) rfl rfl rfl (by (try simp only [bl_bs]); first | exact wrap_in (by omega) | (rw [wrap_in (by omega)]; omega)) rfl (fun _ => ⟨⟨rfl, rfl⟩, rfl⟩) ?_)
      refine VC.s rfl (RVs.callp rfl rfl rfl (fun _ => ⟨⟨rfl, rfl⟩, l01In _ _ _ _⟩) ?_)
      refine VC.s rfl (RVs.not rfl rfl (fun _ => rfl) ?_)
      refine VC.s rfl (RVs.move rfl rfl (fun _ => rfl) ?_)
      refine VC.s rfl (RVs.move rfl rfl (fun hg => rfl) ?_)
      refine VC.s rfl (RVs.bin rfl rfl rfl rfl (fun hg => ⟨⟨hg, rfl⟩, rfl⟩) ?_)
      refine VC.s rfl (RVs.move rfl rfl (fun hg => hg) ?_)
      refine VC.s rfl (RVs.fieldAddr rfl FieldOf.h (by decide) rfl (fun hg => rfl) ?_)
      refine VC.s rfl (RVs.load rfl TyOf.h rfl (fun hg => ⟨hg, (get_prefix (hs6.pre) (Sep.at_ (i := 0) hs3 rfl)), rw_live, rfl⟩) ?_)
      refine VC.s rfl (RVs.move rfl rfl (fun hg => rfl) ?_)
      refine VC.s rfl (RVs.arith (r := ((i : Int) - 1)) rfl rfl rfl (by (try simp only [bl_bs]); first | exact wrap_in (by omega) | (rw [wrap_in (by omega)]; omega)) rfl (fun hg => ⟨⟨hg, rfl⟩, rfl⟩) ?_)
      refine VC.s rfl (RVs.indexS rfl (hS_x_mails.mono (hle (List.IsPrefix.trans hs3.pre (hs6.pre)))) rfl ElemOf.h rfl (fun hg => ⟨⟨hg, hg⟩, by (have hg2 := hg; simp at hg2; omega), by (have hg2 := hg; simp at hg2; omega)⟩) ?_)
      intro id2 j2 u2 B2 e3
      have e4 := fun hg => pv_epq Mail.z (q' := i - 1) (by omega) (e3 hg)
      refine VC.s rfl (RVs.fieldAddr rfl FieldOf.h (by decide) rfl (fun hg => hg) ?_)
      refine VC.s rfl (RVs.loadF (k := kMail) (f := 0) (v := .int .i64 (x.mails[i - 1]?.getD Mail.z).uid) rfl TyOf.h rfl (fun hg => ⟨hg, (e4 hg), by decide, by rw [(e4 hg).r.1]; rfl⟩) ?_)
      refine VC.s rfl (RVs.fieldAddr rfl FieldOf.h (by decide) rfl (fun hg => rfl) ?_)
      refine VC.s rfl (RVs.load rfl TyOf.h rfl (fun hg => ⟨hg, (Sep.at_ (i := 0) hs6 rfl), rw_live, rfl⟩) ?_)
      refine VC.s rfl (RVs.bin rfl rfl rfl rfl (fun hg => ⟨⟨hg, hg⟩, rfl⟩) ?_)
      refine VC.s rfl (RVs.pick rfl rfl rfl rfl (fun hg => ⟨hg, fun hh => pk_t hh hg, fun _ => rfl⟩) ?_)
      refine VC.s rfl (RVs.pick rfl rfl rfl rfl (fun hg => ⟨rfl, fun _ => rfl, fun hh => pk_f hh rfl⟩) ?_)
      refine VC.s rfl (RVs.move rfl rfl (fun _ => rfl) ?_)
      refine VC.s rfl (RVs.fieldAddr rfl FieldOf.h (by decide) rfl (fun hg => rfl) ?_)
      refine VC.s rfl (RVs.load rfl TyOf.h rfl (fun hg => ⟨hg, (Sep.at_ (i := 0) hs6 rfl), rw_live, rfl⟩) ?_)
      refine VC.s rfl (RVs.callp rfl rfl rfl (fun hg => ⟨⟨rfl, (GF.conds_cons hg rfl)⟩, sFlagsOk _ _⟩) ?_)
      refine VC.s rfl (RVs.not rfl rfl (fun hg => hg) ?_)
      refine VC.s rfl (RVs.pick rfl rfl rfl rfl (fun hg => ⟨rfl, fun _ => rfl, fun hh => pk_f hh rfl⟩) ?_)
      refine VC.s rfl (RVs.move rfl rfl (fun _ => rfl) ?_)
      refine VC.s rfl (RVs.fieldAddr rfl FieldOf.h (by decide) rfl (fun hg => rfl) ?_)
      refine VC.s rfl (RVs.load rfl TyOf.h rfl (fun hg => ⟨hg, (Sep.at_ (i := 0) hs6 rfl), rw_live, rfl⟩) ?_)
      refine VC.s rfl (RVs.fieldAddr rfl FieldOf.h (by decide) rfl (fun hg => rfl) ?_)
      refine VC.s rfl (RVs.load rfl TyOf.h rfl (fun hg => ⟨hg, (get_prefix (hs6.pre) (Sep.at_ (i := 0) hs3 rfl)), rw_live, rfl⟩) ?_)
      refine VC.s rfl (RVs.callp rfl rfl rfl (fun hg => ⟨⟨rfl, (GF.conds_cons hg (GF.conds_cons rfl (GF.conds_cons hg rfl)))⟩, l01In _ _ _ _⟩) ?_)
      refine VC.s rfl (RVs.not rfl rfl (fun hg => hg) ?_)
      refine VC.s rfl (RVs.pick rfl rfl rfl rfl (fun hg => ⟨rfl, fun _ => rfl, fun hh => pk_f hh rfl⟩) ?_)
      refine VC.s rfl (RVs.move rfl rfl (fun _ => rfl) ?_)
      refine VC.s rfl (RVs.fieldAddr rfl FieldOf.h (by decide) rfl (fun hg => rfl) ?_)
      refine VC.s rfl (RVs.load rfl TyOf.h rfl (fun hg => ⟨hg, (Sep.at_ (i := 0) hs6 rfl), rw_live, rfl⟩) ?_)
      refine VC.s rfl (RVs.callp rfl rfl rfl (fun hg => ⟨⟨rfl, (GF.conds_cons hg rfl)⟩, sMailOk _ _ hwy1⟩) ?_)
      refine VC.s rfl (RVs.not rfl rfl (fun hg => hg) ?_)
      refine VC.s rfl (RVs.pick rfl rfl rfl rfl (fun hg => ⟨rfl, fun _ => rfl, fun hh => pk_f hh rfl⟩) ?_)
      refine VC.nil (k12 ⟨196, [(1, _), (3, _), (104, _)]⟩ _ ?_)
      refine CWp.condV rfl (fun hc3 => ?_) (fun hc3 => ?_)
      · have hk := mail_no (mail_cond hy1) hc3
        refine CWp.seqK fun Kk13 k13 => ?_
        refine CWp.regionW [2] ?_
        refine VC.s rfl (RVs.assign rfl rfl (fun _ => rfl) ?_)
        refine VC.nil (k13 ⟨196, [(2, _)]⟩ _ ?_)
        refine CWp.ret (q _ _ _ (.cons (.tmp rfl) .nil) ?_).1
        exact ⟨by simp only [one, boxOk, mailsOk]; rw [all_bad (by omega) hk]; simp, (List.IsPrefix.trans hs3.pre (hs6.pre))⟩
      · have hk := mail_yes (mail_cond hy1) hc3
        refine CWp.skip ?_
        refine k10 _ _ ?_
        refine CWp.regionW [1, 3] ?_
        refine VC.s rfl (RVs.move rfl rfl (fun _ => rfl) ?_)
        refine VC.s rfl (RVs.arith (r := ((i + 1 : Nat) : Int)) rfl rfl rfl (by (try simp only [bl_bs]); first | exact wrap_in (by omega) | (rw [wrap_in (by omega)]; omega)) rfl (fun _ => ⟨⟨rfl, rfl⟩, rfl⟩) ?_)
        refine VC.s rfl (RVs.assign rfl rfl (fun _ => rfl) ?_)
        refine VC.nil (k7 _ ⟨196, [(1, _), (3, _)]⟩ _ ?_ ⟨i + 1, rfl, rfl, by omega, all_step ho hk, List.IsPrefix.trans hs2 hs6.pre⟩)
        omega
    · try simp at hc2
      refine CWp.exit ?_
      refine k5 _ _ ?_
      refine CWp.seqK fun Kk14 k14 => ?_
      refine CWp.seqK fun Kk15 k15 => ?_
      refine CWp.regionW [1, 5] ?_
      refine VC.s rfl (RVs.assign rfl rfl (fun _ => rfl) ?_)
      refine VC.nil (k15 ⟨196, [(1, _), (5, _)]⟩ _ ?_)
      refine CWp.block ?_
      refine CWp.loopK (fun n T H' => ∃ i : Nat, T = ⟨196, [(1, .pointer (some ⟨b1, 0, none⟩)), (5, .int .i64 (i : Int))]⟩ ∧ n = x.tombs.length - i ∧ (i ≤ x.tombs.length) ∧ (∀ j, j < i → tombOkAt x j = true) ∧ Hl1 <+: H') (n := x.tombs.length) ⟨0, rfl, by first | rfl | simp, by omega, by intro j hj; omega, List.prefix_refl _⟩ ?_
      rintro n T Hl2 Kk16 k16 ⟨i, rfl, hn2, hi, hp, hs7⟩
      have hs8 := Sep.grow hs4 hs7
      have hs9 := Sep.nil (H := Hl2)
      refine CWp.seqK fun Kk17 k17 => ?_
      refine CWp.seqK fun Kk18 k18 => ?_
      refine CWp.regionW [1, 5, 109] ?_
      refine VC.s rfl (RVs.move rfl rfl (fun _ => rfl) ?_)
      refine VC.s rfl (RVs.fieldAddr rfl FieldOf.h (by decide) rfl (fun _ => rfl) ?_)
      refine VC.s rfl (RVs.load rfl TyOf.h rfl (fun _ => ⟨rfl, (get_prefix ((List.IsPrefix.trans hs8.pre hs9.pre)) (Sep.at_ (i := 0) hs3 rfl)), rw_live, rfl⟩) ?_)
      refine VC.s rfl (RVs.len_slice rfl UnSl.h rfl (fun _ => rfl) ?_)
      refine VC.s rfl (RVs.bin rfl rfl rfl rfl (fun _ => ⟨⟨rfl, rfl⟩, rfl⟩) ?_)
      refine VC.nil (k18 ⟨196, [(1, _), (5, _), (109, _)]⟩ _ ?_)
      refine CWp.condV rfl (fun hc4 => ?_) (fun hc4 => ?_)
      · try simp at hc4
        refine CWp.skip ?_
        refine k17 _ _ ?_
        refine CWp.seqK fun Kk19 k19 => ?_
        refine CWp.block ?_
        refine CWp.seqK fun Kk20 k20 => ?_
        refine CWp.regionW [1, 5, 6] ?_
        refine VC.s rfl (RVs.fieldAddr rfl FieldOf.h (by decide) rfl (fun _ => rfl) ?_)
        refine VC.s rfl (RVs.load rfl TyOf.h rfl (fun _ => ⟨rfl, (get_prefix ((List.IsPrefix.trans hs8.pre hs9.pre)) (Sep.at_ (i := 0) hs3 rfl)), rw_live, rfl⟩) ?_)
        refine VC.s rfl (RVs.move rfl rfl (fun _ => rfl) ?_)
        refine VC.s rfl (RVs.indexS rfl (hS_x_tombs.mono (hle (List.IsPrefix.trans hs3.pre ((List.IsPrefix.trans hs8.pre hs9.pre))))) rfl ElemOf.h rfl (fun _ => ⟨⟨rfl, rfl⟩, by omega, by omega⟩) ?_)
        intro id3 j3 u3 B3 e5
        obtain ⟨y2, hy2, e5⟩ := e5 rfl
        try simp only [Int.toNat_natCast] at hy2
        obtain ⟨rfl, hwy2⟩ := e5.r
        refine VC.s rfl (RVs.loadE (k := kTomb) rfl TyOf.h rfl (fun _ => ⟨rfl, e5⟩) ?_)
        refine VC.s rfl (RVs.alloc ZeroOf.h TyOf.h rfl rfl ?_)
        intro b3 H4 g3 l3 a3
        have e6 := EP.mono (hle g3) e5
        have hs10 := Sep.addB hs9 g3 l3 a3
        refine VC.s rfl (RVs.storeBN (i := 0) hs10 rfl rfl rfl TyOf.h rfl rfl rfl ⟨rfl, rfl⟩ rfl (Nat.le_of_ble_eq_true rfl) rfl ?_)
        intro H5 hs11
        refine VC.nil (k20 ⟨196, [(1, _), (5, _), (6, _)]⟩ _ ?_)
        refine CWp.seqK fun Kk21 k21 => ?_
        refine CWp.seqK fun Kk22 k22 => ?_
        refine CWp.regionW [1, 5, 6, 143] ?_
        refine VC.s rfl (RVs.fieldAddr rfl FieldOf.h (by decide) rfl (fun _ => rfl) ?_)
        refine VC.s rfl (RVs.load rfl TyOf.h rfl (fun _ => ⟨rfl, (Sep.at_ (i := 0) hs11 rfl), rw_live, rfl⟩) ?_)
        refine VC.s rfl (RVs.fieldAddr rfl FieldOf.h (by decide) rfl (fun _ => rfl) ?_)
        refine VC.s rfl (RVs.load rfl TyOf.h rfl (fun _ => ⟨rfl, (get_prefix ((List.IsPrefix.trans hs8.pre hs11.pre)) (Sep.at_ (i := 0) hs3 rfl)), rw_live, rfl⟩) ?_)
        refine VC.s rfl (RVs.arith (r := (x.next - 1)) rfl rfl rfl (by (try simp only [bl_bs]); first | exact wrap_in (by omega) | (rw [wrap_in (by omega)]; omega)) rfl (fun _ => ⟨⟨rfl, rfl⟩, rfl⟩) ?_)
        refine VC.s rfl (RVs.callp rfl rfl rfl (fun _ => ⟨⟨rfl, rfl⟩, l01In _ _ _ _⟩) ?_)
        refine VC.s rfl (RVs.not rfl rfl (fun _ => rfl) ?_)
        refine VC.s rfl (RVs.move rfl rfl (fun _ => rfl) ?_)
        refine VC.s rfl (RVs.fieldAddr rfl FieldOf.h (by decide) rfl (fun hg => rfl) ?_)
        refine VC.s rfl (RVs.load rfl TyOf.h rfl (fun hg => ⟨hg, (Sep.at_ (i := 0) hs11 rfl), rw_live, rfl⟩) ?_)
        refine VC.s rfl (RVs.fieldAddr rfl FieldOf.h (by decide) rfl (fun hg => rfl) ?_)
        refine VC.s rfl (RVs.load rfl TyOf.h rfl (fun hg => ⟨hg, (get_prefix ((List.IsPrefix.trans hs8.pre hs11.pre)) (Sep.at_ (i := 0) hs3 rfl)), rw_live, rfl⟩) ?_)
        refine VC.s rfl (RVs.bin rfl rfl rfl rfl (fun hg => ⟨⟨hg, hg⟩, rfl⟩) ?_)
        refine VC.s rfl (RVs.pick rfl rfl rfl rfl (fun hg => ⟨rfl, fun _ => rfl, fun hh => pk_f hh rfl⟩) ?_)
        refine VC.s rfl (RVs.move rfl rfl (fun _ => rfl) ?_)
        refine VC.s rfl (RVs.fieldAddr rfl FieldOf.h (by decide) rfl (fun hg => rfl) ?_)
        refine VC.s rfl (RVs.load rfl TyOf.h rfl (fun hg => ⟨hg, (Sep.at_ (i := 0) hs11 rfl), rw_live, rfl⟩) ?_)
        refine VC.s rfl (RVs.fieldAddr rfl FieldOf.h (by decide) rfl (fun hg => rfl) ?_)
        refine VC.s rfl (RVs.load rfl TyOf.h rfl (fun hg => ⟨hg, (get_prefix ((List.IsPrefix.trans hs8.pre hs11.pre)) (Sep.at_ (i := 0) hs3 rfl)), rw_live, rfl⟩) ?_)
        refine VC.s rfl (RVs.bin rfl rfl rfl rfl (fun hg => ⟨⟨hg, hg⟩, rfl⟩) ?_)
        refine VC.s rfl (RVs.pick rfl rfl rfl rfl (fun hg => ⟨rfl, fun _ => rfl, fun hh => pk_f hh rfl⟩) ?_)
        refine VC.s rfl (RVs.move rfl rfl (fun _ => rfl) ?_)
        refine VC.s rfl (RVs.load_agg rfl TyOf.h rfl (fun hg => ⟨rfl, (get_prefix ((List.IsPrefix.trans hs8.pre hs11.pre)) (Sep.at_ (i := 0) hs3 rfl)), rw_live, Nat.le_of_ble_eq_true rfl, rfl⟩) ?_)
        refine VC.s rfl (RVs.fieldAddr rfl FieldOf.h (by decide) rfl (fun hg => rfl) ?_)
        refine VC.s rfl (RVs.load rfl TyOf.h rfl (fun hg => ⟨hg, (Sep.at_ (i := 0) hs11 rfl), rw_live, rfl⟩) ?_)
        refine VC.s rfl (RVs.callp rfl rfl rfl (fun hg => ⟨⟨rfl, (GF.conds_cons hg (GF.conds_cons hg rfl))⟩, l08HasMail _ _ _ _ _ (hS_x_mails.mono (hle (List.IsPrefix.trans hs3.pre ((List.IsPrefix.trans hs8.pre hs11.pre)))))⟩) ?_)
        refine VC.s rfl (RVs.pick rfl rfl rfl rfl (fun hg => ⟨rfl, fun _ => rfl, fun hh => pk_f hh rfl⟩) ?_)
        refine VC.nil (k22 ⟨196, [(1, _), (5, _), (6, _), (143, _)]⟩ _ ?_)
        refine CWp.condV rfl (fun hc5 => ?_) (fun hc5 => ?_)
        · have hk : tombOkAt x i = false := by
            rw [tomb_parts hy2]; revert hc5; exact tomb_b1
          refine CWp.seqK fun Kk23 k23 => ?_
          refine CWp.regionW [2] ?_
          refine VC.s rfl (RVs.assign rfl rfl (fun _ => rfl) ?_)
          refine VC.nil (k23 ⟨196, [(2, _)]⟩ _ ?_)
          refine CWp.ret (q _ _ _ (.cons (.tmp rfl) .nil) ?_).1
          exact ⟨by simp only [one, boxOk, tombsOk]; rw [all_bad (by omega) hk]; simp, (List.IsPrefix.trans hs3.pre ((List.IsPrefix.trans hs8.pre hs11.pre)))⟩
        · simp at hc5
          refine CWp.skip ?_
          refine k21 _ _ ?_
          refine CWp.seqK fun Kk24 k24 => ?_
          refine CWp.seqK fun Kk25 k25 => ?_
          refine CWp.regionW [1, 5, 6, 7] ?_
          refine VC.s rfl (RVs.assign rfl rfl (fun _ => rfl) ?_)
          refine VC.nil (k25 ⟨196, [(1, _), (5, _), (6, _), (7, _)]⟩ _ ?_)
          refine CWp.block ?_
          refine CWp.loopK (fun n T H' => ∃ k : Nat, T = ⟨196, [(1, .pointer (some ⟨b1, 0, none⟩)), (5, .int .i64 (i : Int)), (6, .pointer (some ⟨b3, 0, none⟩)), (7, .int .i64 (k : Int))]⟩ ∧ n = i - k ∧ (k ≤ i) ∧ ((x.tombs.take k).any (fun u => decide (u.uid = y2.uid)) = false) ∧ H5 <+: H') (n := i) ⟨0, rfl, by first | rfl | simp, by omega, by simp, List.prefix_refl _⟩ ?_
          rintro n T Hl3 Kk26 k26 ⟨k, rfl, hn3, hki, hany, hs12⟩
          have hs13 := Sep.grow hs11 hs12
          have hs14 := Sep.nil (H := Hl3)
          refine CWp.seqK fun Kk27 k27 => ?_
          refine CWp.seqK fun Kk28 k28 => ?_
          refine CWp.regionW [1, 5, 6, 7, 146] ?_
          refine VC.s rfl (RVs.move rfl rfl (fun _ => rfl) ?_)
          refine VC.s rfl (RVs.move rfl rfl (fun _ => rfl) ?_)
          refine VC.s rfl (RVs.bin rfl rfl rfl rfl (fun _ => ⟨⟨rfl, rfl⟩, rfl⟩) ?_)
          refine VC.nil (k28 ⟨196, [(1, _), (5, _), (6, _), (7, _), (146, _)]⟩ _ ?_)
          refine CWp.condV rfl (fun hc6 => ?_) (fun hc6 => ?_)
          · try simp at hc6
            refine CWp.skip ?_
            refine k27 _ _ ?_
            refine CWp.seqK fun Kk29 k29 => ?_
            refine CWp.block ?_
            refine CWp.seqK fun Kk30 k30 => ?_
            refine CWp.regionDW [1, 5, 6, 7, 157] [false, false, false, false, false, false, false, false, false] (by decide +kernel) ?_
            refine VC.s rfl (RVs.fieldAddr rfl FieldOf.h (by decide) rfl (fun _ => rfl) ?_)
            refine VC.s rfl (RVs.load rfl TyOf.h rfl (fun _ => ⟨rfl, (get_prefix ((List.IsPrefix.trans hs8.pre (List.IsPrefix.trans hs13.pre hs14.pre))) (Sep.at_ (i := 0) hs3 rfl)), rw_live, rfl⟩) ?_)
            refine VC.s rfl (RVs.move rfl rfl (fun _ => rfl) ?_)
            refine VC.s rfl (RVs.indexS rfl (hS_x_tombs.mono (hle (List.IsPrefix.trans hs3.pre ((List.IsPrefix.trans hs8.pre (List.IsPrefix.trans hs13.pre hs14.pre)))))) rfl ElemOf.h rfl (fun _ => ⟨⟨rfl, rfl⟩, by omega, by omega⟩) ?_)
            intro id4 j4 u4 B4 e7
            obtain ⟨y3, hy3, e7⟩ := e7 rfl
            try simp only [Int.toNat_natCast] at hy3
            obtain ⟨rfl, hwy3⟩ := e7.r
            refine VC.s rfl (RVs.fieldAddr rfl FieldOf.h (by decide) rfl (fun _ => rfl) ?_)
            refine VC.s rfl (RVs.loadF (k := kTomb) (f := 0) rfl TyOf.h rfl (fun _ => ⟨rfl, e7, by decide, rfl⟩) ?_)
            refine VC.s rfl (RVs.fieldAddr rfl FieldOf.h (by decide) rfl (fun _ => rfl) ?_)
            refine VC.s rfl (RVs.load rfl TyOf.h rfl (fun _ => ⟨rfl, (get_prefix (hs14.pre) (Sep.at_ (i := 0) hs13 rfl)), rw_live, rfl⟩) ?_)
            refine VC.s rfl (RVs.bin rfl rfl rfl rfl (fun _ => ⟨⟨rfl, rfl⟩, rfl⟩) ?_)
            refine VC.nil (k30 ⟨196, [(1, _), (5, _), (6, _), (7, _), (157, _)]⟩ _ ?_)
            refine CWp.condV rfl (fun hc7 => ?_) (fun hc7 => ?_)
            · simp at hc7
              have hk : tombOkAt x i = false := by rw [tomb_parts hy2, any_take_bad hy3 hc6 (decide_eq_true hc7)]; simp
              refine CWp.seqK fun Kk31 k31 => ?_
              refine CWp.regionW [2] ?_
              refine VC.s rfl (RVs.assign rfl rfl (fun _ => rfl) ?_)
              refine VC.nil (k31 ⟨196, [(2, _)]⟩ _ ?_)
              refine CWp.ret (q _ _ _ (.cons (.tmp rfl) .nil) ?_).1
              exact ⟨by simp only [one, boxOk, tombsOk]; rw [all_bad (by omega) hk]; simp, (List.IsPrefix.trans hs3.pre ((List.IsPrefix.trans hs8.pre (List.IsPrefix.trans hs13.pre hs14.pre))))⟩
            · simp at hc7
              refine CWp.skip ?_
              refine k29 _ _ ?_
              refine CWp.regionW [1, 5, 6, 7] ?_
              refine VC.s rfl (RVs.move rfl rfl (fun _ => rfl) ?_)
              refine VC.s rfl (RVs.arith (r := ((k + 1 : Nat) : Int)) rfl rfl rfl (by (try simp only [bl_bs]); first | exact wrap_in (by omega) | (rw [wrap_in (by omega)]; omega)) rfl (fun _ => ⟨⟨rfl, rfl⟩, rfl⟩) ?_)
              refine VC.s rfl (RVs.assign rfl rfl (fun _ => rfl) ?_)
              refine VC.nil (k26 _ ⟨196, [(1, _), (5, _), (6, _), (7, _)]⟩ _ ?_ ⟨k + 1, rfl, rfl, by omega, any_take_step hany hy3 (by simpa using hc7), List.IsPrefix.trans hs12 hs14.pre⟩)
              omega
          · try simp at hc6
            refine CWp.exit ?_
            refine k24 _ _ ?_
            refine CWp.seqK fun Kk32 k32 => ?_
            refine CWp.regionDW [1, 5, 195] [false, false, false, false, false, false, false, false, false, false, false, false, false, false, false, false, false, false, false, false, false, false, false, false, false, false, false, false, false, false, false, false, false, false, false, false, false, false] (by decide +kernel) ?_
            refine VC.s rfl (RVs.move rfl rfl (fun _ => rfl) ?_)
            refine VC.s rfl (RVs.bin rfl rfl rfl rfl (fun _ => ⟨⟨rfl, rfl⟩, rfl⟩) ?_)
            refine VC.s rfl (RVs.move rfl rfl (fun _ => rfl) ?_)
            refine VC.s rfl (RVs.fieldAddr rfl FieldOf.h (by decide) rfl (fun hg => rfl) ?_)
            refine VC.s rfl (RVs.load rfl TyOf.h rfl (fun hg => ⟨hg, (get_prefix ((List.IsPrefix.trans hs8.pre (List.IsPrefix.trans hs13.pre hs14.pre))) (Sep.at_ (i := 0) hs3 rfl)), rw_live, rfl⟩) ?_)
            refine VC.s rfl (RVs.move rfl rfl (fun hg => rfl) ?_)
            refine VC.s rfl (RVs.arith (r := ((i : Int) - 1)) rfl rfl rfl (by (try simp only [bl_bs]); first | exact wrap_in (by omega) | (rw [wrap_in (by omega)]; omega)) rfl (fun hg => ⟨⟨hg, rfl⟩, rfl⟩) ?_)
            refine VC.s rfl (RVs.indexS rfl (hS_x_tombs.mono (hle (List.IsPrefix.trans hs3.pre ((List.IsPrefix.trans hs8.pre (List.IsPrefix.trans hs13.pre hs14.pre)))))) rfl ElemOf.h rfl (fun hg => ⟨⟨hg, hg⟩, by (have hg2 := hg; simp at hg2; omega), by (have hg2 := hg; simp at hg2; omega)⟩) ?_)
            intro id5 j5 u5 B5 e8
            have e9 := fun hg => pv_epq Tomb.z (q' := i - 1) (by omega) (e8 hg)
            refine VC.s rfl (RVs.fieldAddr rfl FieldOf.h (by decide) rfl (fun hg => hg) ?_)
            refine VC.s rfl (RVs.loadF (k := kTomb) (f := 1) (v := .int .i64 (x.tombs[i - 1]?.getD Tomb.z).mod) rfl TyOf.h rfl (fun hg => ⟨hg, (e9 hg), by decide, by rw [(e9 hg).r.1]; rfl⟩) ?_)
            refine VC.s rfl (RVs.fieldAddr rfl FieldOf.h (by decide) rfl (fun hg => rfl) ?_)
            refine VC.s rfl (RVs.load rfl TyOf.h rfl (fun hg => ⟨hg, (get_prefix (hs14.pre) (Sep.at_ (i := 0) hs13 rfl)), rw_live, rfl⟩) ?_)
            refine VC.s rfl (RVs.bin rfl rfl rfl rfl (fun hg => ⟨⟨hg, hg⟩, rfl⟩) ?_)
            refine VC.s rfl (RVs.move rfl rfl (fun hg => hg) ?_)
            refine VC.s rfl (RVs.fieldAddr rfl FieldOf.h (by decide) rfl (fun hg => rfl) ?_)
            refine VC.s rfl (RVs.load rfl TyOf.h rfl (fun hg => ⟨hg, (get_prefix ((List.IsPrefix.trans hs8.pre (List.IsPrefix.trans hs13.pre hs14.pre))) (Sep.at_ (i := 0) hs3 rfl)), rw_live, rfl⟩) ?_)
            refine VC.s rfl (RVs.move rfl rfl (fun hg => rfl) ?_)
            refine VC.s rfl (RVs.arith (r := ((i : Int) - 1)) rfl rfl rfl (by (try simp only [bl_bs]); first | exact wrap_in (by omega) | (rw [wrap_in (by omega)]; omega)) rfl (fun hg => ⟨⟨hg, rfl⟩, rfl⟩) ?_)
            refine VC.s rfl (RVs.indexS rfl (hS_x_tombs.mono (hle (List.IsPrefix.trans hs3.pre ((List.IsPrefix.trans hs8.pre (List.IsPrefix.trans hs13.pre hs14.pre)))))) rfl ElemOf.h rfl (fun hg => ⟨⟨hg, hg⟩, by (have hg2 := hg; simp at hg2; omega), by (have hg2 := hg; simp at hg2; omega)⟩) ?_)
            intro id6 j6 u6 B6 e10
            have e11 := fun hg => pv_epq Tomb.z (q' := i - 1) (by omega) (e10 hg)
            refine VC.s rfl (RVs.fieldAddr rfl FieldOf.h (by decide) rfl (fun hg => hg) ?_)
            refine VC.s rfl (RVs.loadF (k := kTomb) (f := 1) (v := .int .i64 (x.tombs[i - 1]?.getD Tomb.z).mod) rfl TyOf.h rfl (fun hg => ⟨hg, (e11 hg), by decide, by rw [(e11 hg).r.1]; rfl⟩) ?_)
            refine VC.s rfl (RVs.fieldAddr rfl FieldOf.h (by decide) rfl (fun hg => rfl) ?_)
            refine VC.s rfl (RVs.load rfl TyOf.h rfl (fun hg => ⟨hg, (get_prefix (hs14.pre) (Sep.at_ (i := 0) hs13 rfl)), rw_live, rfl⟩) ?_)
            refine VC.s rfl (RVs.bin rfl rfl rfl rfl (fun hg => ⟨⟨hg, hg⟩, rfl⟩) ?_)
            refine VC.s rfl (RVs.move rfl rfl (fun hg => hg) ?_)
            refine VC.s rfl (RVs.fieldAddr rfl FieldOf.h (by decide) rfl (fun hg => rfl) ?_)
            refine VC.s rfl (RVs.load rfl TyOf.h rfl (fun hg => ⟨hg, (get_prefix ((List.IsPrefix.trans hs8.pre (List.IsPrefix.trans hs13.pre hs14.pre))) (Sep.at_ (i := 0) hs3 rfl)), rw_live, rfl⟩) ?_)
            refine VC.s rfl (RVs.move rfl rfl (fun hg => rfl) ?_)
            refine VC.s rfl (RVs.arith (r := ((i : Int) - 1)) rfl rfl rfl (by (try simp only [bl_bs]); first | exact wrap_in (by omega) | (rw [wrap_in (by omega)]; omega)) rfl (fun hg => ⟨⟨hg, rfl⟩, rfl⟩) ?_)
            refine VC.s rfl (RVs.indexS rfl (hS_x_tombs.mono (hle (List.IsPrefix.trans hs3.pre ((List.IsPrefix.trans hs8.pre (List.IsPrefix.trans hs13.pre hs14.pre)))))) rfl ElemOf.h rfl (fun hg => ⟨⟨hg, hg⟩, by (have hg2 := hg; simp at hg2; omega), by (have hg2 := hg; simp at hg2; omega)⟩) ?_)
            intro id7 j7 u7 B7 e12
            have e13 := fun hg => pv_epq Tomb.z (q' := i - 1) (by omega) (e12 hg)
            refine VC.s rfl (RVs.fieldAddr rfl FieldOf.h (by decide) rfl (fun hg => hg) ?_)
            refine VC.s rfl (RVs.loadF (k := kTomb) (f := 0) (v := .int .i64 (x.tombs[i - 1]?.getD Tomb.z).uid) rfl TyOf.h rfl (fun hg => ⟨hg, (e13 hg), by decide, by rw [(e13 hg).r.1]; rfl⟩) ?_)
            refine VC.s rfl (RVs.fieldAddr rfl FieldOf.h (by decide) rfl (fun hg => rfl) ?_)
            refine VC.s rfl (RVs.load rfl TyOf.h rfl (fun hg => ⟨hg, (get_prefix (hs14.pre) (Sep.at_ (i := 0) hs13 rfl)), rw_live, rfl⟩) ?_)
            refine VC.s rfl (RVs.bin rfl rfl rfl rfl (fun hg => ⟨⟨hg, hg⟩, rfl⟩) ?_)
            refine VC.s rfl (RVs.pick rfl rfl rfl rfl (fun hg => ⟨hg, fun hh => pk_t hh hg, fun _ => rfl⟩) ?_)
            refine VC.s rfl (RVs.pick rfl rfl rfl rfl (fun hg => ⟨hg, fun _ => rfl, fun hh => pk_f hh hg⟩) ?_)
            refine VC.s rfl (RVs.pick rfl rfl rfl rfl (fun hg => ⟨rfl, fun hh => pk_t hh rfl, fun _ => rfl⟩) ?_)
            refine VC.nil (k32 ⟨196, [(1, _), (5, _), (195, _)]⟩ _ ?_)
            refine CWp.condV rfl (fun hc8 => ?_) (fun hc8 => ?_)
            · have hki2 : k = i := by omega
              rw [hki2] at hany
              have hk : tombOkAt x i = false := by rw [tomb_parts hy2, hc8]; simp
              refine CWp.seqK fun Kk33 k33 => ?_
              refine CWp.regionW [2] ?_
              refine VC.s rfl (RVs.assign rfl rfl (fun _ => rfl) ?_)
              refine VC.nil (k33 ⟨196, [(2, _)]⟩ _ ?_)
              refine CWp.ret (q _ _ _ (.cons (.tmp rfl) .nil) ?_).1
              exact ⟨by simp only [one, boxOk, tombsOk]; rw [all_bad (by omega) hk]; simp, (List.IsPrefix.trans hs3.pre ((List.IsPrefix.trans hs8.pre (List.IsPrefix.trans hs13.pre hs14.pre))))⟩
            · have hki2 : k = i := by omega
              rw [hki2] at hany
              have hk : tombOkAt x i = true := by rw [tomb_parts hy2, hc8, hany, hc5.2, decide_eq_true hc5.1.1.1, decide_eq_true (And.intro hc5.1.1.2 hc5.1.2)]; rfl
              refine CWp.skip ?_
              refine k19 _ _ ?_
              refine CWp.regionW [1, 5] ?_
              refine VC.s rfl (RVs.move rfl rfl (fun _ => rfl) ?_)
              refine VC.s rfl (RVs.arith (r := ((i + 1 : Nat) : Int)) rfl rfl rfl (by (try simp only [bl_bs]); first | exact wrap_in (by omega) | (rw [wrap_in (by omega)]; omega)) rfl (fun _ => ⟨⟨rfl, rfl⟩, rfl⟩) ?_)
              refine VC.s rfl (RVs.assign rfl rfl (fun _ => rfl) ?_)
              refine VC.nil (k16 _ ⟨196, [(1, _), (5, _)]⟩ _ ?_ ⟨i + 1, rfl, rfl, by omega, all_step hp hk, List.IsPrefix.trans hs7 (List.IsPrefix.trans hs13.pre (hs14.pre))⟩)
              omega
      · try simp at hc4
        refine CWp.exit ?_
        refine k14 _ _ ?_
        refine CWp.seqK fun Kk34 k34 => ?_
        refine CWp.regionW [2] ?_
        refine VC.s rfl (RVs.assign rfl rfl (fun _ => rfl) ?_)
        refine VC.nil (k34 ⟨196, [(2, _)]⟩ _ ?_)
        refine CWp.ret (q _ _ _ (.cons (.tmp rfl) .nil) ?_).1
        exact ⟨by simp only [one, boxOk, numbersOk, mailsOk, tombsOk]; rw [all_end ho (by omega), all_end hp (by omega), hc1.1.1.1.1.1.1, decide_eq_true hc1.1.1.1.1.1.2, decide_eq_true hc1.1.1.1.1.2, decide_eq_true hc1.1.1.1.2, decide_eq_true hc1.2, decide_eq_true hc1.1.1.2, decide_eq_true hc1.1.2]; rfl, (List.IsPrefix.trans hs3.pre ((List.IsPrefix.trans hs8.pre hs9.pre)))⟩

end Go.Proofs.Ytaccaelocddakaa
