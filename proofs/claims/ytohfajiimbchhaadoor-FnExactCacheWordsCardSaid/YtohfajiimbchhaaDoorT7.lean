/- The walks of the functions that look whether a cache is right. -/
import Derived.Test.YtohfajiimbchhaaDoorT6
namespace Go.Proofs.YtohfajiimbchhaaDoor
open Go Go.RowKit
set_option linter.unusedVariables false
set_option maxRecDepth 20000
variable [Tabs]

theorem sCacheOk (x : Cache) (v : Value) (H : AH) (hS : kSeen.S H v x.seens) (hb : x.box.length ≤ lim) : FWp Tryd.prog 14 [.agg #[.string (bs x.box), .int .i64 x.valid, .int .i64 x.mod, v]] H (fun v' H' => v' = .bool (cacheOk x) ∧ H' = H) := by
  refine FWp.pure rfl fun H ph => ?_
  replace hS := hS.mono (hle ph)
  have hl := hS.lim
  obtain ⟨aa, ca, rfl, hca⟩ := hS.form
  refine FWp.enterK Tryd.func14 rfl (by decide +kernel) rfl rfl fun Q q => ?_
  refine CWp.seqK fun Kk1 k1 => ?_
  refine CWp.regionW [1] ?_
  refine VC.s rfl (RVs.box rfl TyOf.h rfl rfl rfl ?_)
  intro b1 H1 g1 l1 a1
  have lo1 := Nat.le_trans (List.IsPrefix.length_le (List.prefix_refl H)) l1
  have p1 := (List.prefix_refl H).trans g1
  refine VC.s rfl (RVs.assign rfl rfl (fun _ => rfl) ?_)
  refine VC.nil (k1 ⟨70, [(1, _)]⟩ _ ?_)
  refine CWp.seqK fun Kk2 k2 => ?_
  refine CWp.seqK fun Kk3 k3 => ?_
  refine CWp.regionW [1, 3] ?_
  refine VC.s rfl (RVs.assign rfl rfl (fun _ => rfl) ?_)
  refine VC.nil (k3 ⟨70, [(1, _), (3, _)]⟩ _ ?_)
  refine CWp.block ?_
  refine CWp.loopK (fun n T H' => ∃ i : Nat, T = ⟨70, [(1, .pointer (some ⟨b1, 0, none⟩)), (3, .int .i64 (i : Int))]⟩ ∧ n = x.seens.length - i ∧ (i ≤ x.seens.length) ∧ (∀ j, j < i → seenOkAt x.seens x.mod j = true) ∧ H1 <+: H') (n := x.seens.length) ⟨0, rfl, by first | rfl | simp, by omega, by intro j hj; omega, List.prefix_refl _⟩ ?_
  rintro n T Hl1 Kk4 k4 ⟨i, rfl, hn1, hi, ho, pl1⟩
  have p2 := p1.trans pl1
  have a2 := get_prefix pl1 a1
  refine CWp.seqK fun Kk5 k5 => ?_
  refine CWp.seqK fun Kk6 k6 => ?_
  refine CWp.regionW [1, 3, 9] ?_
  refine VC.s rfl (RVs.move rfl rfl (fun _ => rfl) ?_)
  refine VC.s rfl (RVs.fieldAddr rfl FieldOf.h (by decide) rfl (fun _ => rfl) ?_)
  refine VC.s rfl (RVs.load rfl TyOf.h rfl (fun _ => ⟨rfl, a2, rw_live, rfl⟩) ?_)
  refine VC.s rfl (RVs.len_slice rfl UnSl.h rfl (fun _ => rfl) ?_)
  refine VC.s rfl (RVs.bin rfl rfl rfl rfl (fun _ => ⟨⟨rfl, rfl⟩, rfl⟩) ?_)
  refine VC.nil (k6 ⟨70, [(1, _), (3, _), (9, _)]⟩ _ ?_)
  refine CWp.condV rfl (fun hc1 => ?_) (fun hc1 => ?_)
  · try simp at hc1
    refine CWp.skip ?_
    refine k5 _ _ ?_
    refine CWp.seqK fun Kk7 k7 => ?_
    refine CWp.block ?_
    refine CWp.seqK fun Kk8 k8 => ?_
    refine CWp.regionW [1, 3, 4] ?_
    refine VC.s rfl (RVs.fieldAddr rfl FieldOf.h (by decide) rfl (fun _ => rfl) ?_)
    refine VC.s rfl (RVs.load rfl TyOf.h rfl (fun _ => ⟨rfl, a2, rw_live, rfl⟩) ?_)
    refine VC.s rfl (RVs.move rfl rfl (fun _ => rfl) ?_)
    refine VC.s rfl (RVs.indexS rfl (hS.mono (hle p2)) rfl ElemOf.h rfl (fun _ => ⟨⟨rfl, rfl⟩, by omega, by omega⟩) ?_)
    intro id1 j1 u1 B1 e1
    obtain ⟨y1, hy1, e1⟩ := e1 rfl
    obtain ⟨rfl, _⟩ := e1.r
    refine VC.s rfl (RVs.loadE (k := kSeen) rfl TyOf.h rfl (fun _ => ⟨rfl, e1⟩) ?_)
    refine VC.s rfl (RVs.alloc ZeroOf.h TyOf.h rfl rfl ?_)
    intro b2 H2 g2 l2 a3
    have lt1 := Nat.lt_of_lt_of_le (lt_of_at a2) l2
    have lo2 := Nat.le_trans (List.IsPrefix.length_le p2) l2
    have ls1 := Nat.le_trans (List.IsPrefix.length_le (List.prefix_refl Hl1)) l2
    have sn1 := List.IsPrefix.trans (List.prefix_refl Hl1) g2
    have p3 := p2.trans g2
    have a4 := get_prefix g2 a2
    refine VC.s rfl (RVs.storeN rfl rfl TyOf.h rfl rfl rfl ⟨rfl, rfl⟩ a3 rfl rfl (Nat.le_of_ble_eq_true rfl) rfl ?_)
    intro H3 u2
    have sn2 := u2.prefix sn1 ls1
    have p4 := u2.prefix p3 lo2
    have a5 := u2.other (Nat.ne_of_lt lt1) a4
    have a6 := u2.at_
    refine VC.nil (k8 ⟨70, [(1, _), (3, _), (4, _)]⟩ _ ?_)
    refine CWp.seqK fun Kk9 k9 => ?_
    refine CWp.regionDW [1, 3, 50] [false, false, false, false, false, false, false, false, false, false, false, false, false, false, false, false, false, false, false, false, false, false, false, false, false, false, false, false, false, false, false, false, false, false] (by decide +kernel) ?_
    refine VC.s rfl (RVs.fieldAddr rfl FieldOf.h (by decide) rfl (fun _ => rfl) ?_)
    refine VC.s rfl (RVs.load rfl TyOf.h rfl (fun _ => ⟨rfl, a6, rw_live, rfl⟩) ?_)
    refine VC.s rfl (RVs.callp rfl rfl rfl (fun _ => ⟨⟨rfl, rfl⟩, l01In _ _ _ _⟩) ?_)
    refine VC.s rfl (RVs.not rfl rfl (fun _ => rfl) ?_)
    refine VC.s rfl (RVs.move rfl rfl (fun _ => rfl) ?_)
    refine VC.s rfl (RVs.move rfl rfl (fun hg => (by first | rfl | exact hg | (simp_all [GF.cond, GF.conds, GF.get, GF.put, AF.toG]))) ?_)
    refine VC.s rfl (RVs.bin rfl rfl rfl rfl (fun hg => ⟨⟨(by first | rfl | exact hg | (simp_all [GF.cond, GF.conds, GF.get, GF.put, AF.toG])), (by first | rfl | exact hg | (simp_all [GF.cond, GF.conds, GF.get, GF.put, AF.toG]))⟩, rfl⟩) ?_)
    refine VC.s rfl (RVs.move rfl rfl (fun hg => (by first | rfl | exact hg | (simp_all [GF.cond, GF.conds, GF.get, GF.put, AF.toG]))) ?_)
    refine VC.s rfl (RVs.fieldAddr rfl FieldOf.h (by decide) rfl (fun hg => (by first | rfl | exact hg | (simp_all [GF.cond, GF.conds, GF.get, GF.put, AF.toG]))) ?_)
    refine VC.s rfl (RVs.load rfl TyOf.h rfl (fun hg => ⟨(by first | rfl | exact hg | (simp_all [GF.cond, GF.conds, GF.get, GF.put, AF.toG])), a5, rw_live, rfl⟩) ?_)
    refine VC.s rfl (RVs.move rfl rfl (fun hg => (by first | rfl | exact hg | (simp_all [GF.cond, GF.conds, GF.get, GF.put, AF.toG]))) ?_)
    refine VC.s rfl (RVs.bin rfl rfl rfl rfl (fun hg => ⟨⟨(by first | rfl | exact hg | (simp_all [GF.cond, GF.conds, GF.get, GF.put, AF.toG])), (by first | rfl | exact hg | (simp_all [GF.cond, GF.conds, GF.get, GF.put, AF.toG]))⟩, rfl⟩) ?_)
    refine VC.s rfl (RVs.indexS rfl (hS.mono (hle p4)) rfl ElemOf.h rfl (fun hg => ⟨⟨(by first | rfl | exact hg | (simp_all [GF.cond, GF.conds, GF.get, GF.put, AF.toG])), (by first | rfl | exact hg | (simp_all [GF.cond, GF.conds, GF.get, GF.put, AF.toG]))⟩, by (have hg2 := hg; simp at hg2); rw [wrap_in (by unfold lim at hl; omega)]; omega, by (have hg2 := hg; simp at hg2); rw [wrap_in (by unfold lim at hl; omega)]; omega⟩) ?_)
    intro id2 j2 u3 B2 e2
    have f2 := fun hg => pv_ep ⟨0, 0, 0⟩ (e2 hg)
    refine VC.s rfl (RVs.fieldAddr rfl FieldOf.h (by decide) rfl (fun hg => (by first | rfl | exact hg | (simp_all [GF.cond, GF.conds, GF.get, GF.put, AF.toG]))) ?_)
    refine VC.s rfl (RVs.loadF (k := kSeen) (f := 0) (v := .int .i64 (x.seens[(IntKind.i64.wrap ((i : Int) - 1)).toNat]?.getD ⟨0, 0, 0⟩).uid) rfl TyOf.h rfl (fun hg => ⟨(by first | rfl | exact hg | (simp_all [GF.cond, GF.conds, GF.get, GF.put, AF.toG])), f2 hg, by decide, by rw [(f2 hg).r.1]; rfl⟩) ?_)
    refine VC.s rfl (RVs.fieldAddr rfl FieldOf.h (by decide) rfl (fun hg => (by first | rfl | exact hg | (simp_all [GF.cond, GF.conds, GF.get, GF.put, AF.toG]))) ?_)
    refine VC.s rfl (RVs.load rfl TyOf.h rfl (fun hg => ⟨(by first | rfl | exact hg | (simp_all [GF.cond, GF.conds, GF.get, GF.put, AF.toG])), a6, rw_live, rfl⟩) ?_)
    refine VC.s rfl (RVs.bin rfl rfl rfl rfl (fun hg => ⟨⟨(by first | rfl | exact hg | (simp_all [GF.cond, GF.conds, GF.get, GF.put, AF.toG])), (by first | rfl | exact hg | (simp_all [GF.cond, GF.conds, GF.get, GF.put, AF.toG]))⟩, rfl⟩) ?_)
    refine VC.s rfl (RVs.pick rfl rfl rfl rfl (fun hg => ⟨(by first | rfl | exact hg | (simp_all [GF.cond, GF.conds, GF.get, GF.put, AF.toG])), fun hh => by first | rfl | exact pk_t hh rfl | exact pk_t hh hg, fun hh => by first | rfl | exact pk_f hh rfl | exact pk_f hh hg⟩) ?_)
    refine VC.s rfl (RVs.pick rfl rfl rfl rfl (fun hg => ⟨rfl, fun hh => by first | rfl | exact pk_t hh rfl | exact pk_t hh hg, fun hh => by first | rfl | exact pk_f hh rfl | exact pk_f hh hg⟩) ?_)
    refine VC.s rfl (RVs.move rfl rfl (fun _ => rfl) ?_)
    refine VC.s rfl (RVs.fieldAddr rfl FieldOf.h (by decide) rfl (fun hg => (by first | rfl | exact hg | (simp_all [GF.cond, GF.conds, GF.get, GF.put, AF.toG]))) ?_)
    refine VC.s rfl (RVs.load rfl TyOf.h rfl (fun hg => ⟨(by first | rfl | exact hg | (simp_all [GF.cond, GF.conds, GF.get, GF.put, AF.toG])), a6, rw_live, rfl⟩) ?_)
    refine VC.s rfl (RVs.callp rfl rfl rfl (fun hg => ⟨⟨rfl, (by first | rfl | exact hg | (simp_all [GF.cond, GF.conds, GF.get, GF.put, AF.toG]))⟩, sFlagsOk _ _⟩) ?_)
    refine VC.s rfl (RVs.not rfl rfl (fun hg => (by first | rfl | exact hg | (simp_all [GF.cond, GF.conds, GF.get, GF.put, AF.toG]))) ?_)
    refine VC.s rfl (RVs.pick rfl rfl rfl rfl (fun hg => ⟨rfl, fun hh => by first | rfl | exact pk_t hh rfl | exact pk_t hh hg, fun hh => by first | rfl | exact pk_f hh rfl | exact pk_f hh hg⟩) ?_)
    refine VC.s rfl (RVs.move rfl rfl (fun _ => rfl) ?_)
    refine VC.s rfl (RVs.fieldAddr rfl FieldOf.h (by decide) rfl (fun hg => (by first | rfl | exact hg | (simp_all [GF.cond, GF.conds, GF.get, GF.put, AF.toG]))) ?_)
    refine VC.s rfl (RVs.load rfl TyOf.h rfl (fun hg => ⟨(by first | rfl | exact hg | (simp_all [GF.cond, GF.conds, GF.get, GF.put, AF.toG])), a6, rw_live, rfl⟩) ?_)
    refine VC.s rfl (RVs.fieldAddr rfl FieldOf.h (by decide) rfl (fun hg => (by first | rfl | exact hg | (simp_all [GF.cond, GF.conds, GF.get, GF.put, AF.toG]))) ?_)
    refine VC.s rfl (RVs.load rfl TyOf.h rfl (fun hg => ⟨(by first | rfl | exact hg | (simp_all [GF.cond, GF.conds, GF.get, GF.put, AF.toG])), a5, rw_live, rfl⟩) ?_)
    refine VC.s rfl (RVs.callp rfl rfl rfl (fun hg => ⟨⟨rfl, (by first | rfl | exact hg | (simp_all [GF.cond, GF.conds, GF.get, GF.put, AF.toG]))⟩, l01In _ _ _ _⟩) ?_)
    refine VC.s rfl (RVs.not rfl rfl (fun hg => (by first | rfl | exact hg | (simp_all [GF.cond, GF.conds, GF.get, GF.put, AF.toG]))) ?_)
    refine VC.s rfl (RVs.pick rfl rfl rfl rfl (fun hg => ⟨rfl, fun hh => by first | rfl | exact pk_t hh rfl | exact pk_t hh hg, fun hh => by first | rfl | exact pk_f hh rfl | exact pk_f hh hg⟩) ?_)
    refine VC.nil (k9 ⟨70, [(1, _), (3, _), (50, _)]⟩ _ ?_)
    refine CWp.condV rfl (fun hc2 => ?_) (fun hc2 => ?_)
    · have hk := (so_cond (m := x.mod) (i := i) (show x.seens[i]? = some y1 from hy1) (a := (x.seens[(IntKind.i64.wrap ((i : Int) - 1)).toNat]?.getD ⟨0, 0, 0⟩).uid) (fun hp => by rw [wrap_in (by unfold lim at hl; omega), show ((i : Int) - 1).toNat = i - 1 by omega])).symm.trans hc2
      refine CWp.seqK fun Kk10 k10 => ?_
      refine CWp.regionW [2] ?_
      refine VC.s rfl (RVs.assign rfl rfl (fun _ => rfl) ?_)
      refine VC.nil (k10 ⟨70, [(2, _)]⟩ _ ?_)
      refine CWp.ret (q _ _ _ (.cons (.tmp rfl) .nil) ?_).1
      exact ⟨by rw [so_bad (x := x) (i := i) (by omega) (by simpa using hk)]; rfl, p4⟩
    · have hk := (so_cond (m := x.mod) (i := i) (show x.seens[i]? = some y1 from hy1) (a := (x.seens[(IntKind.i64.wrap ((i : Int) - 1)).toNat]?.getD ⟨0, 0, 0⟩).uid) (fun hp => by rw [wrap_in (by unfold lim at hl; omega), show ((i : Int) - 1).toNat = i - 1 by omega])).symm.trans hc2
      refine CWp.skip ?_
      refine k7 _ _ ?_
      refine CWp.regionW [1, 3] ?_
      refine VC.s rfl (RVs.move rfl rfl (fun _ => rfl) ?_)
      refine VC.s rfl (RVs.bin rfl rfl rfl rfl (fun _ => ⟨⟨rfl, rfl⟩, rfl⟩) ?_)
      refine VC.s rfl (RVs.assign rfl rfl (fun _ => rfl) ?_)
      rw [wrap_succ (n := x.seens.length) (by omega) hl]
      refine VC.nil (k4 _ ⟨70, [(1, _), (3, _)]⟩ _ ?_ ⟨i + 1, rfl, rfl, by omega, so_step ho (by simpa using hk), pl1.trans sn2⟩)
      omega
  · try simp at hc1
    refine CWp.exit ?_
    refine k2 _ _ ?_
    refine CWp.seqK fun Kk11 k11 => ?_
    refine CWp.regionW [2] ?_
    refine VC.s rfl (RVs.fieldAddr rfl FieldOf.h (by decide) rfl (fun _ => rfl) ?_)
    refine VC.s rfl (RVs.load rfl TyOf.h rfl (fun _ => ⟨rfl, a2, rw_live, rfl⟩) ?_)
    refine VC.s rfl (RVs.callp rfl rfl rfl (fun _ => ⟨⟨rfl, rfl⟩, sBoxName _ _ hb⟩) ?_)
    refine VC.s rfl (RVs.move rfl rfl (fun _ => rfl) ?_)
    refine VC.s rfl (RVs.fieldAddr rfl FieldOf.h (by decide) rfl (fun hg => (by first | rfl | exact hg | (simp_all [GF.cond, GF.conds, GF.get, GF.put, AF.toG]))) ?_)
    refine VC.s rfl (RVs.load rfl TyOf.h rfl (fun hg => ⟨(by first | rfl | exact hg | (simp_all [GF.cond, GF.conds, GF.get, GF.put, AF.toG])), a2, rw_live, rfl⟩) ?_)
    refine VC.s rfl (RVs.callp rfl rfl rfl (fun hg => ⟨⟨rfl, (by first | rfl | exact hg | (simp_all [GF.cond, GF.conds, GF.get, GF.put, AF.toG]))⟩, l01In _ _ _ _⟩) ?_)
    refine VC.s rfl (RVs.pick rfl rfl rfl rfl (fun hg => ⟨rfl, fun hh => by first | rfl | exact pk_t hh rfl | exact pk_t hh hg, fun hh => by first | rfl | exact pk_f hh rfl | exact pk_f hh hg⟩) ?_)
    refine VC.s rfl (RVs.move rfl rfl (fun _ => rfl) ?_)
    refine VC.s rfl (RVs.fieldAddr rfl FieldOf.h (by decide) rfl (fun hg => (by first | rfl | exact hg | (simp_all [GF.cond, GF.conds, GF.get, GF.put, AF.toG]))) ?_)
    refine VC.s rfl (RVs.load rfl TyOf.h rfl (fun hg => ⟨(by first | rfl | exact hg | (simp_all [GF.cond, GF.conds, GF.get, GF.put, AF.toG])), a2, rw_live, rfl⟩) ?_)
    refine VC.s rfl (RVs.callp rfl rfl rfl (fun hg => ⟨⟨rfl, (by first | rfl | exact hg | (simp_all [GF.cond, GF.conds, GF.get, GF.put, AF.toG]))⟩, l01In _ _ _ _⟩) ?_)
    refine VC.s rfl (RVs.pick rfl rfl rfl rfl (fun hg => ⟨rfl, fun hh => by first | rfl | exact pk_t hh rfl | exact pk_t hh hg, fun hh => by first | rfl | exact pk_f hh rfl | exact pk_f hh hg⟩) ?_)
    refine VC.s rfl (RVs.move rfl rfl (fun _ => rfl) ?_)
    refine VC.s rfl (RVs.fieldAddr rfl FieldOf.h (by decide) rfl (fun hg => (by first | rfl | exact hg | (simp_all [GF.cond, GF.conds, GF.get, GF.put, AF.toG]))) ?_)
    refine VC.s rfl (RVs.load rfl TyOf.h rfl (fun hg => ⟨(by first | rfl | exact hg | (simp_all [GF.cond, GF.conds, GF.get, GF.put, AF.toG])), a2, rw_live, rfl⟩) ?_)
    refine VC.s rfl (RVs.len_slice rfl UnSl.h rfl (fun hg => (by first | rfl | exact hg | (simp_all [GF.cond, GF.conds, GF.get, GF.put, AF.toG]))) ?_)
    refine VC.s rfl (RVs.bin rfl rfl rfl rfl (fun hg => ⟨⟨(by first | rfl | exact hg | (simp_all [GF.cond, GF.conds, GF.get, GF.put, AF.toG])), (by first | rfl | exact hg | (simp_all [GF.cond, GF.conds, GF.get, GF.put, AF.toG]))⟩, rfl⟩) ?_)
    refine VC.s rfl (RVs.pick rfl rfl rfl rfl (fun hg => ⟨rfl, fun hh => by first | rfl | exact pk_t hh rfl | exact pk_t hh hg, fun hh => by first | rfl | exact pk_f hh rfl | exact pk_f hh hg⟩) ?_)
    refine VC.s rfl (RVs.assign rfl rfl (fun _ => rfl) ?_)
    refine VC.nil (k11 ⟨70, [(2, _)]⟩ _ ?_)
    refine CWp.ret (q _ _ _ (.cons (.tmp rfl) .nil) ?_).1
    exact ⟨congrArg Value.bool ((so_fin _ _ _ _).trans (by rw [so_end ho (by omega)])), p2⟩

theorem iCacheOk (x : Cache) (v : Value) (H : AH) (hS : kSeen.S H v x.seens) (hb : x.box.length ≤ lim) : FWp Tryd.prog 17 [.agg #[.string (bs x.box), .int .i64 x.valid, .int .i64 x.mod, v]] H (fun v' H' => v' = .bool (cacheOk x) ∧ H' = H) := by
  refine FWp.pure rfl fun H ph => ?_
  replace hS := hS.mono (hle ph)
  have hl := hS.lim
  obtain ⟨aa, ca, rfl, hca⟩ := hS.form
  refine FWp.enterK Tryd.func17 rfl (by decide +kernel) rfl rfl fun Q q => ?_
  refine CWp.seqK fun Kk1 k1 => ?_
  refine CWp.regionW [1] ?_
  refine VC.s rfl (RVs.box rfl TyOf.h rfl rfl rfl ?_)
  intro b1 H1 g1 l1 a1
  have lo1 := Nat.le_trans (List.IsPrefix.length_le (List.prefix_refl H)) l1
  have p1 := (List.prefix_refl H).trans g1
  refine VC.s rfl (RVs.assign rfl rfl (fun _ => rfl) ?_)
  refine VC.nil (k1 ⟨67, [(1, _)]⟩ _ ?_)
  refine CWp.seqK fun Kk2 k2 => ?_
  refine CWp.seqK fun Kk3 k3 => ?_
  refine CWp.regionW [1, 6, 7, 8] ?_
  refine VC.s rfl (RVs.fieldAddr rfl FieldOf.h (by decide) rfl (fun _ => rfl) ?_)
  refine VC.s rfl (RVs.load rfl TyOf.h rfl (fun _ => ⟨rfl, a1, rw_live, rfl⟩) ?_)
  refine VC.s rfl (RVs.len_slice rfl UnSl.h rfl (fun _ => rfl) ?_)
  refine VC.s rfl (RVs.move rfl rfl (fun _ => rfl) ?_)
  refine VC.nil (k3 ⟨67, [(1, _), (6, _), (7, _), (8, _)]⟩ _ ?_)
  refine CWp.block ?_
  refine CWp.loopK (fun n T H' => ∃ i : Nat, T = ⟨67, [(1, .pointer (some ⟨b1, 0, none⟩)), (6, .slice aa x.seens.length ca), (7, .int .i64 (x.seens.length : Int)), (8, .int .i64 (i : Int))]⟩ ∧ n = x.seens.length - i ∧ (i ≤ x.seens.length) ∧ (∀ j, j < i → seenOkAt x.seens x.mod j = true) ∧ H1 <+: H') (n := x.seens.length) ⟨0, rfl, by first | rfl | simp, by omega, by intro j hj; omega, List.prefix_refl _⟩ ?_
  rintro n T Hl1 Kk4 k4 ⟨i, rfl, hn1, hi, ho, pl1⟩
  have p2 := p1.trans pl1
  have a2 := get_prefix pl1 a1
  refine CWp.seqK fun Kk5 k5 => ?_
  refine CWp.regionW [1, 6, 7, 8, 9] ?_
  refine VC.s rfl (RVs.bin rfl rfl rfl rfl (fun _ => ⟨⟨rfl, rfl⟩, rfl⟩) ?_)
  refine VC.nil (k5 ⟨67, [(1, _), (6, _), (7, _), (8, _), (9, _)]⟩ _ ?_)
  refine CWp.seqK fun Kk6 k6 => ?_
  refine CWp.condV rfl (fun hc1 => ?_) (fun hc1 => ?_)
  · try simp at hc1
    refine CWp.skip ?_
    refine k6 _ _ ?_
    refine CWp.seqK fun Kk7 k7 => ?_
    refine CWp.block ?_
    refine CWp.seqK fun Kk8 k8 => ?_
    refine CWp.regionW [1, 3, 4, 6, 7, 8] ?_
    refine VC.s rfl (RVs.move rfl rfl (fun _ => rfl) ?_)
    refine VC.s rfl (RVs.indexS rfl (hS.mono (hle p2)) rfl ElemOf.h rfl (fun _ => ⟨⟨rfl, rfl⟩, by omega, by omega⟩) ?_)
    intro id1 j1 u1 B1 e1
    obtain ⟨y1, hy1, e1⟩ := e1 rfl
    obtain ⟨rfl, _⟩ := e1.r
    refine VC.s rfl (RVs.loadE (k := kSeen) rfl TyOf.h rfl (fun _ => ⟨rfl, e1⟩) ?_)
    refine VC.s rfl (RVs.alloc ZeroOf.h TyOf.h rfl rfl ?_)
    intro b2 H2 g2 l2 a3
    have lt1 := Nat.lt_of_lt_of_le (lt_of_at a2) l2
    have lo2 := Nat.le_trans (List.IsPrefix.length_le p2) l2
    have ls1 := Nat.le_trans (List.IsPrefix.length_le (List.prefix_refl Hl1)) l2
    have sn1 := List.IsPrefix.trans (List.prefix_refl Hl1) g2
    have p3 := p2.trans g2
    have a4 := get_prefix g2 a2
    refine VC.s rfl (RVs.assign rfl rfl (fun _ => rfl) ?_)
    refine VC.s rfl (RVs.storeN rfl rfl TyOf.h rfl rfl rfl ⟨rfl, rfl⟩ a3 rfl rfl (Nat.le_of_ble_eq_true rfl) rfl ?_)
    intro H3 u2
    have sn2 := u2.prefix sn1 ls1
    have p4 := u2.prefix p3 lo2
    have a5 := u2.other (Nat.ne_of_lt lt1) a4
    have a6 := u2.at_
    refine VC.nil (k8 ⟨67, [(1, _), (3, _), (4, _), (6, _), (7, _), (8, _)]⟩ _ ?_)
    refine CWp.seqK fun Kk9 k9 => ?_
    refine CWp.regionDW [1, 6, 7, 8, 46] [false, false, false, false, false, false, false, false, false, false, false, false, false, false, false, false, false, false, false, false, false, false, false, false, false, false, false, false, false, false, false, false, false, false] (by decide +kernel) ?_
    refine VC.s rfl (RVs.fieldAddr rfl FieldOf.h (by decide) rfl (fun _ => rfl) ?_)
    refine VC.s rfl (RVs.load rfl TyOf.h rfl (fun _ => ⟨rfl, a6, rw_live, rfl⟩) ?_)
    refine VC.s rfl (RVs.callp rfl rfl rfl (fun _ => ⟨⟨rfl, rfl⟩, isUid _ _⟩) ?_)
    refine VC.s rfl (RVs.not rfl rfl (fun _ => rfl) ?_)
    refine VC.s rfl (RVs.move rfl rfl (fun _ => rfl) ?_)
    refine VC.s rfl (RVs.move rfl rfl (fun hg => (by first | rfl | exact hg | (simp_all [GF.cond, GF.conds, GF.get, GF.put, AF.toG]))) ?_)
    refine VC.s rfl (RVs.bin rfl rfl rfl rfl (fun hg => ⟨⟨(by first | rfl | exact hg | (simp_all [GF.cond, GF.conds, GF.get, GF.put, AF.toG])), (by first | rfl | exact hg | (simp_all [GF.cond, GF.conds, GF.get, GF.put, AF.toG]))⟩, rfl⟩) ?_)
    refine VC.s rfl (RVs.move rfl rfl (fun hg => (by first | rfl | exact hg | (simp_all [GF.cond, GF.conds, GF.get, GF.put, AF.toG]))) ?_)
    refine VC.s rfl (RVs.fieldAddr rfl FieldOf.h (by decide) rfl (fun hg => (by first | rfl | exact hg | (simp_all [GF.cond, GF.conds, GF.get, GF.put, AF.toG]))) ?_)
    refine VC.s rfl (RVs.load rfl TyOf.h rfl (fun hg => ⟨(by first | rfl | exact hg | (simp_all [GF.cond, GF.conds, GF.get, GF.put, AF.toG])), a5, rw_live, rfl⟩) ?_)
    refine VC.s rfl (RVs.move rfl rfl (fun hg => (by first | rfl | exact hg | (simp_all [GF.cond, GF.conds, GF.get, GF.put, AF.toG]))) ?_)
    refine VC.s rfl (RVs.bin rfl rfl rfl rfl (fun hg => ⟨⟨(by first | rfl | exact hg | (simp_all [GF.cond, GF.conds, GF.get, GF.put, AF.toG])), (by first | rfl | exact hg | (simp_all [GF.cond, GF.conds, GF.get, GF.put, AF.toG]))⟩, rfl⟩) ?_)
    refine VC.s rfl (RVs.indexS rfl (hS.mono (hle p4)) rfl ElemOf.h rfl (fun hg => ⟨⟨(by first | rfl | exact hg | (simp_all [GF.cond, GF.conds, GF.get, GF.put, AF.toG])), (by first | rfl | exact hg | (simp_all [GF.cond, GF.conds, GF.get, GF.put, AF.toG]))⟩, by (have hg2 := hg; simp at hg2); rw [wrap_in (by unfold lim at hl; omega)]; omega, by (have hg2 := hg; simp at hg2); rw [wrap_in (by unfold lim at hl; omega)]; omega⟩) ?_)
    intro id2 j2 u3 B2 e2
    have f2 := fun hg => pv_ep ⟨0, 0, 0⟩ (e2 hg)
    refine VC.s rfl (RVs.fieldAddr rfl FieldOf.h (by decide) rfl (fun hg => (by first | rfl | exact hg | (simp_all [GF.cond, GF.conds, GF.get, GF.put, AF.toG]))) ?_)
    refine VC.s rfl (RVs.loadF (k := kSeen) (f := 0) (v := .int .i64 (x.seens[(IntKind.i64.wrap ((i : Int) - 1)).toNat]?.getD ⟨0, 0, 0⟩).uid) rfl TyOf.h rfl (fun hg => ⟨(by first | rfl | exact hg | (simp_all [GF.cond, GF.conds, GF.get, GF.put, AF.toG])), f2 hg, by decide, by rw [(f2 hg).r.1]; rfl⟩) ?_)
    refine VC.s rfl (RVs.fieldAddr rfl FieldOf.h (by decide) rfl (fun hg => (by first | rfl | exact hg | (simp_all [GF.cond, GF.conds, GF.get, GF.put, AF.toG]))) ?_)
    refine VC.s rfl (RVs.load rfl TyOf.h rfl (fun hg => ⟨(by first | rfl | exact hg | (simp_all [GF.cond, GF.conds, GF.get, GF.put, AF.toG])), a6, rw_live, rfl⟩) ?_)
    refine VC.s rfl (RVs.bin rfl rfl rfl rfl (fun hg => ⟨⟨(by first | rfl | exact hg | (simp_all [GF.cond, GF.conds, GF.get, GF.put, AF.toG])), (by first | rfl | exact hg | (simp_all [GF.cond, GF.conds, GF.get, GF.put, AF.toG]))⟩, rfl⟩) ?_)
    refine VC.s rfl (RVs.pick rfl rfl rfl rfl (fun hg => ⟨(by first | rfl | exact hg | (simp_all [GF.cond, GF.conds, GF.get, GF.put, AF.toG])), fun hh => by first | rfl | exact pk_t hh rfl | exact pk_t hh hg, fun hh => by first | rfl | exact pk_f hh rfl | exact pk_f hh hg⟩) ?_)
    refine VC.s rfl (RVs.pick rfl rfl rfl rfl (fun hg => ⟨rfl, fun hh => by first | rfl | exact pk_t hh rfl | exact pk_t hh hg, fun hh => by first | rfl | exact pk_f hh rfl | exact pk_f hh hg⟩) ?_)
    refine VC.s rfl (RVs.move rfl rfl (fun _ => rfl) ?_)
    refine VC.s rfl (RVs.fieldAddr rfl FieldOf.h (by decide) rfl (fun hg => (by first | rfl | exact hg | (simp_all [GF.cond, GF.conds, GF.get, GF.put, AF.toG]))) ?_)
    refine VC.s rfl (RVs.load rfl TyOf.h rfl (fun hg => ⟨(by first | rfl | exact hg | (simp_all [GF.cond, GF.conds, GF.get, GF.put, AF.toG])), a6, rw_live, rfl⟩) ?_)
    refine VC.s rfl (RVs.callp rfl rfl rfl (fun hg => ⟨⟨rfl, (by first | rfl | exact hg | (simp_all [GF.cond, GF.conds, GF.get, GF.put, AF.toG]))⟩, iFlagsOk _ _⟩) ?_)
    refine VC.s rfl (RVs.not rfl rfl (fun hg => (by first | rfl | exact hg | (simp_all [GF.cond, GF.conds, GF.get, GF.put, AF.toG]))) ?_)
    refine VC.s rfl (RVs.pick rfl rfl rfl rfl (fun hg => ⟨rfl, fun hh => by first | rfl | exact pk_t hh rfl | exact pk_t hh hg, fun hh => by first | rfl | exact pk_f hh rfl | exact pk_f hh hg⟩) ?_)
    refine VC.s rfl (RVs.move rfl rfl (fun _ => rfl) ?_)
    refine VC.s rfl (RVs.fieldAddr rfl FieldOf.h (by decide) rfl (fun hg => (by first | rfl | exact hg | (simp_all [GF.cond, GF.conds, GF.get, GF.put, AF.toG]))) ?_)
    refine VC.s rfl (RVs.load rfl TyOf.h rfl (fun hg => ⟨(by first | rfl | exact hg | (simp_all [GF.cond, GF.conds, GF.get, GF.put, AF.toG])), a6, rw_live, rfl⟩) ?_)
    refine VC.s rfl (RVs.fieldAddr rfl FieldOf.h (by decide) rfl (fun hg => (by first | rfl | exact hg | (simp_all [GF.cond, GF.conds, GF.get, GF.put, AF.toG]))) ?_)
    refine VC.s rfl (RVs.load rfl TyOf.h rfl (fun hg => ⟨(by first | rfl | exact hg | (simp_all [GF.cond, GF.conds, GF.get, GF.put, AF.toG])), a5, rw_live, rfl⟩) ?_)
    refine VC.s rfl (RVs.callp rfl rfl rfl (fun hg => ⟨⟨rfl, (by first | rfl | exact hg | (simp_all [GF.cond, GF.conds, GF.get, GF.put, AF.toG]))⟩, within _ _ _ _⟩) ?_)
    refine VC.s rfl (RVs.not rfl rfl (fun hg => (by first | rfl | exact hg | (simp_all [GF.cond, GF.conds, GF.get, GF.put, AF.toG]))) ?_)
    refine VC.s rfl (RVs.pick rfl rfl rfl rfl (fun hg => ⟨rfl, fun hh => by first | rfl | exact pk_t hh rfl | exact pk_t hh hg, fun hh => by first | rfl | exact pk_f hh rfl | exact pk_f hh hg⟩) ?_)
    refine VC.nil (k9 ⟨67, [(1, _), (6, _), (7, _), (8, _), (46, _)]⟩ _ ?_)
    refine CWp.condV rfl (fun hc2 => ?_) (fun hc2 => ?_)
    · have hk := (so_cond (m := x.mod) (i := i) (show x.seens[i]? = some y1 from hy1) (a := (x.seens[(IntKind.i64.wrap ((i : Int) - 1)).toNat]?.getD ⟨0, 0, 0⟩).uid) (fun hp => by rw [wrap_in (by unfold lim at hl; omega), show ((i : Int) - 1).toNat = i - 1 by omega])).symm.trans hc2
      refine CWp.seqK fun Kk10 k10 => ?_
      refine CWp.regionW [2] ?_
      refine VC.s rfl (RVs.assign rfl rfl (fun _ => rfl) ?_)
      refine VC.nil (k10 ⟨67, [(2, _)]⟩ _ ?_)
      refine CWp.ret (q _ _ _ (.cons (.tmp rfl) .nil) ?_).1
      exact ⟨by rw [so_bad (x := x) (i := i) (by omega) (by simpa using hk)]; rfl, p4⟩
    · have hk := (so_cond (m := x.mod) (i := i) (show x.seens[i]? = some y1 from hy1) (a := (x.seens[(IntKind.i64.wrap ((i : Int) - 1)).toNat]?.getD ⟨0, 0, 0⟩).uid) (fun hp => by rw [wrap_in (by unfold lim at hl; omega), show ((i : Int) - 1).toNat = i - 1 by omega])).symm.trans hc2
      refine CWp.skip ?_
      refine k7 _ _ ?_
      refine CWp.regionW [1, 6, 7, 8] ?_
      refine VC.s rfl (RVs.bin rfl rfl rfl rfl (fun _ => ⟨⟨rfl, rfl⟩, rfl⟩) ?_)
      refine VC.s rfl (RVs.move rfl rfl (fun _ => rfl) ?_)
      rw [wrap_succ (n := x.seens.length) (by omega) hl]
      refine VC.nil (k4 _ ⟨67, [(1, _), (6, _), (7, _), (8, _)]⟩ _ ?_ ⟨i + 1, rfl, rfl, by omega, so_step ho (by simpa using hk), pl1.trans sn2⟩)
      omega
  · try simp at hc1
    refine CWp.exit ?_
    refine k2 _ _ ?_
    refine CWp.seqK fun Kk11 k11 => ?_
    refine CWp.regionW [2] ?_
    refine VC.s rfl (RVs.fieldAddr rfl FieldOf.h (by decide) rfl (fun _ => rfl) ?_)
    refine VC.s rfl (RVs.load rfl TyOf.h rfl (fun _ => ⟨rfl, a2, rw_live, rfl⟩) ?_)
    refine VC.s rfl (RVs.callp rfl rfl rfl (fun _ => ⟨⟨rfl, rfl⟩, iBoxName _ _ hb⟩) ?_)
    refine VC.s rfl (RVs.move rfl rfl (fun _ => rfl) ?_)
    refine VC.s rfl (RVs.fieldAddr rfl FieldOf.h (by decide) rfl (fun hg => (by first | rfl | exact hg | (simp_all [GF.cond, GF.conds, GF.get, GF.put, AF.toG]))) ?_)
    refine VC.s rfl (RVs.load rfl TyOf.h rfl (fun hg => ⟨(by first | rfl | exact hg | (simp_all [GF.cond, GF.conds, GF.get, GF.put, AF.toG])), a2, rw_live, rfl⟩) ?_)
    refine VC.s rfl (RVs.callp rfl rfl rfl (fun hg => ⟨⟨rfl, (by first | rfl | exact hg | (simp_all [GF.cond, GF.conds, GF.get, GF.put, AF.toG]))⟩, within _ _ _ _⟩) ?_)
    refine VC.s rfl (RVs.pick rfl rfl rfl rfl (fun hg => ⟨rfl, fun hh => by first | rfl | exact pk_t hh rfl | exact pk_t hh hg, fun hh => by first | rfl | exact pk_f hh rfl | exact pk_f hh hg⟩) ?_)
    refine VC.s rfl (RVs.move rfl rfl (fun _ => rfl) ?_)
    refine VC.s rfl (RVs.fieldAddr rfl FieldOf.h (by decide) rfl (fun hg => (by first | rfl | exact hg | (simp_all [GF.cond, GF.conds, GF.get, GF.put, AF.toG]))) ?_)
    refine VC.s rfl (RVs.load rfl TyOf.h rfl (fun hg => ⟨(by first | rfl | exact hg | (simp_all [GF.cond, GF.conds, GF.get, GF.put, AF.toG])), a2, rw_live, rfl⟩) ?_)
    refine VC.s rfl (RVs.callp rfl rfl rfl (fun hg => ⟨⟨rfl, (by first | rfl | exact hg | (simp_all [GF.cond, GF.conds, GF.get, GF.put, AF.toG]))⟩, within _ _ _ _⟩) ?_)
    refine VC.s rfl (RVs.pick rfl rfl rfl rfl (fun hg => ⟨rfl, fun hh => by first | rfl | exact pk_t hh rfl | exact pk_t hh hg, fun hh => by first | rfl | exact pk_f hh rfl | exact pk_f hh hg⟩) ?_)
    refine VC.s rfl (RVs.move rfl rfl (fun _ => rfl) ?_)
    refine VC.s rfl (RVs.fieldAddr rfl FieldOf.h (by decide) rfl (fun hg => (by first | rfl | exact hg | (simp_all [GF.cond, GF.conds, GF.get, GF.put, AF.toG]))) ?_)
    refine VC.s rfl (RVs.load rfl TyOf.h rfl (fun hg => ⟨(by first | rfl | exact hg | (simp_all [GF.cond, GF.conds, GF.get, GF.put, AF.toG])), a2, rw_live, rfl⟩) ?_)
    refine VC.s rfl (RVs.len_slice rfl UnSl.h rfl (fun hg => (by first | rfl | exact hg | (simp_all [GF.cond, GF.conds, GF.get, GF.put, AF.toG]))) ?_)
    refine VC.s rfl (RVs.bin rfl rfl rfl rfl (fun hg => ⟨⟨(by first | rfl | exact hg | (simp_all [GF.cond, GF.conds, GF.get, GF.put, AF.toG])), (by first | rfl | exact hg | (simp_all [GF.cond, GF.conds, GF.get, GF.put, AF.toG]))⟩, rfl⟩) ?_)
    refine VC.s rfl (RVs.pick rfl rfl rfl rfl (fun hg => ⟨rfl, fun hh => by first | rfl | exact pk_t hh rfl | exact pk_t hh hg, fun hh => by first | rfl | exact pk_f hh rfl | exact pk_f hh hg⟩) ?_)
    refine VC.s rfl (RVs.assign rfl rfl (fun _ => rfl) ?_)
    refine VC.nil (k11 ⟨67, [(2, _)]⟩ _ ?_)
    refine CWp.ret (q _ _ _ (.cons (.tmp rfl) .nil) ?_).1
    exact ⟨congrArg Value.bool ((so_fin _ _ _ _).trans (by rw [so_end ho (by omega)])), p2⟩

end Go.Proofs.YtohfajiimbchhaaDoor
