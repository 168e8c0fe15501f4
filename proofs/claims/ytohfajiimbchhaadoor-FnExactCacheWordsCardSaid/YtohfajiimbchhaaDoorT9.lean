/- The walks of the functions that tell numbers and caches in words. -/
import Derived.Test.YtohfajiimbchhaaDoorT7
import Derived.Test.YtohfajiimbchhaaDoorT8
namespace Go.Proofs.YtohfajiimbchhaaDoor
open Go Go.RowKit
set_option linter.unusedVariables false
set_option maxRecDepth 20000

theorem sCacheWords (x : Cache) (v : Value) (H : AH) (hS : kSeen.S H v x.seens) (hb : x.box.length ≤ lim) : FWp Tryd.prog 5 [.agg #[.string (bs x.box), .int .i64 x.valid, .int .i64 x.mod, v]] H (fun v' H' => Fresh Kd.str.slice H H' [v'] (cacheWords x)) := by
  refine FWp.enterK Tryd.func5 rfl (by decide +kernel) rfl rfl fun Q q => ?_
  refine CWp.seqK fun Kk1 k1 => ?_
  refine CWp.regionW [1] ?_
  refine VC.s rfl (RVs.box rfl TyOf.h rfl rfl rfl ?_)
  intro b1 H1 g1 l1 a1
  have lo1 := Nat.le_trans (List.IsPrefix.length_le (List.prefix_refl H)) l1
  have p1 := (List.prefix_refl H).trans g1
  refine VC.s rfl (RVs.assign rfl rfl (fun _ => rfl) ?_)
  refine VC.nil (k1 ⟨22, [(1, _)]⟩ _ ?_)
  refine CWp.seqK fun Kk2 k2 => ?_
  refine CWp.seqK fun Kk3 k3 => ?_
  refine CWp.regionW [1, 5] ?_
  refine VC.s rfl (RVs.load_agg rfl TyOf.h rfl (fun _ => ⟨rfl, a1, rw_live, Nat.le_of_ble_eq_true rfl, rfl⟩) ?_)
  refine VC.s rfl (RVs.callp rfl rfl rfl (fun _ => ⟨⟨rfl, rfl⟩, sCacheOk _ _ _ (hS.mono (hle p1)) hb⟩) ?_)
  refine VC.s rfl (RVs.not rfl rfl (fun _ => rfl) ?_)
  refine VC.nil (k3 ⟨22, [(1, _), (5, _)]⟩ _ ?_)
  refine CWp.condV rfl (fun hc1 => ?_) (fun hc1 => ?_)
  · have hko : cacheOk x = false := by simpa using hc1
    refine CWp.seqK fun Kk4 k4 => ?_
    refine CWp.regionW [2] ?_
    refine VC.s rfl (RVs.buildS ElemOf.h ZeroOf.h rfl rfl rfl (by decide) rfl rfl rfl ?_)
    intro b2 H2 g2 l2 a2
    have lt1 := Nat.lt_of_lt_of_le (lt_of_at a1) l2
    have lo2 := Nat.le_trans (List.IsPrefix.length_le p1) l2
    have p2 := p1.trans g2
    have a3 := get_prefix g2 a1
    refine VC.s rfl (RVs.assign rfl rfl (fun _ => rfl) ?_)
    refine VC.nil (k4 ⟨22, [(2, _)]⟩ _ ?_)
    refine CWp.ret (q _ _ _ (.cons (.tmp rfl) .nil) ?_).1
    rw [cacheWords_bad hko]
    exact fresh_build (k := Kd.str) str_Flat p2 lo2 a2 .nil rfl (by decide)
  · have hko : cacheOk x = true := by simpa using hc1
    have hrg := cacheOk_range hko
    refine CWp.skip ?_
    refine k2 _ _ ?_
    refine CWp.seqK fun Kk5 k5 => ?_
    refine CWp.seqK fun Kk6 k6 => ?_
    refine CWp.regionW [1, 9] ?_
    refine VC.s rfl (RVs.fieldAddr rfl FieldOf.h (by decide) rfl (fun _ => rfl) ?_)
    refine VC.s rfl (RVs.load rfl TyOf.h rfl (fun _ => ⟨rfl, a1, rw_live, rfl⟩) ?_)
    refine VC.s rfl (RVs.bin rfl rfl rfl rfl (fun _ => ⟨⟨rfl, rfl⟩, rfl⟩) ?_)
    refine VC.nil (k6 ⟨22, [(1, _), (9, _)]⟩ _ ?_)
    refine CWp.condV rfl (fun hc2 => ?_) (fun hc2 => ?_)
    · try simp at hc2
      refine CWp.seqK fun Kk7 k7 => ?_
      refine CWp.regionW [2] ?_
      refine VC.s rfl (RVs.fieldAddr rfl FieldOf.h (by decide) rfl (fun _ => rfl) ?_)
      refine VC.s rfl (RVs.load rfl TyOf.h rfl (fun _ => ⟨rfl, a1, rw_live, rfl⟩) ?_)
      refine VC.s rfl (RVs.buildS ElemOf.h ZeroOf.h rfl rfl rfl (by decide) rfl rfl rfl ?_)
      intro b3 H3 g3 l3 a4
      have lt2 := Nat.lt_of_lt_of_le (lt_of_at a1) l3
      have lo3 := Nat.le_trans (List.IsPrefix.length_le p1) l3
      have p3 := p1.trans g3
      have a5 := get_prefix g3 a1
      refine VC.s rfl (RVs.assign rfl rfl (fun _ => rfl) ?_)
      refine VC.nil (k7 ⟨22, [(2, _)]⟩ _ ?_)
      refine CWp.ret (q _ _ _ (.cons (.tmp rfl) .nil) ?_).1
      rw [cacheWords_2 hko hc2]
      exact fresh_build str_Flat p3 lo3 a4 (strs_Rs [_, _] (by intro y hy; simp at hy; rcases hy with rfl | rfl <;> first | exact hb | (simp; decide))) rfl (by decide)
    · try simp at hc2
      refine CWp.skip ?_
      refine k5 _ _ ?_
      refine CWp.seqK fun Kk8 k8 => ?_
      refine CWp.regionDW [2] [false, false, false, false, false, false, false, false, false, false] (by decide +kernel) ?_
      refine VC.s rfl (RVs.fieldAddr rfl FieldOf.h (by decide) rfl (fun _ => rfl) ?_)
      refine VC.s rfl (RVs.load rfl TyOf.h rfl (fun _ => ⟨rfl, a1, rw_live, rfl⟩) ?_)
      refine VC.s rfl (RVs.fieldAddr rfl FieldOf.h (by decide) rfl (fun _ => rfl) ?_)
      refine VC.s rfl (RVs.load rfl TyOf.h rfl (fun _ => ⟨rfl, a1, rw_live, rfl⟩) ?_)
      refine VC.s rfl (RVs.callp rfl rfl rfl (fun _ => ⟨⟨rfl, rfl⟩, sDecimal _ _ (by omega) (by unfold lim; omega)⟩) ?_)
      refine VC.s rfl (RVs.fieldAddr rfl FieldOf.h (by decide) rfl (fun _ => rfl) ?_)
      refine VC.s rfl (RVs.load rfl TyOf.h rfl (fun _ => ⟨rfl, a1, rw_live, rfl⟩) ?_)
      refine VC.s rfl (RVs.callp rfl rfl rfl (fun _ => ⟨⟨rfl, rfl⟩, sDecimal _ _ (by omega) (by unfold lim; omega)⟩) ?_)
      refine VC.s rfl (RVs.buildS ElemOf.h ZeroOf.h rfl rfl rfl (by decide) rfl rfl rfl ?_)
      intro b4 H4 g4 l4 a6
      have lt3 := Nat.lt_of_lt_of_le (lt_of_at a1) l4
      have lo4 := Nat.le_trans (List.IsPrefix.length_le p1) l4
      have p4 := p1.trans g4
      have a7 := get_prefix g4 a1
      refine VC.s rfl (RVs.assign rfl rfl (fun _ => rfl) ?_)
      refine VC.nil (k8 ⟨22, [(2, _)]⟩ _ ?_)
      refine CWp.ret (q _ _ _ (.cons (.tmp rfl) .nil) ?_).1
      rw [cacheWords_4 hko hc2]
      exact fresh_build str_Flat p4 lo4 a6 (strs_Rs [_, _, _, _] (by intro y hy; simp at hy; rcases hy with rfl | rfl | rfl | rfl <;> first | exact hb | exact decL_lim (by omega) (by unfold lim; omega) | (simp; decide))) rfl (by decide)

theorem iCacheWords (x : Cache) (v : Value) (H : AH) (hS : kSeen.S H v x.seens) (hb : x.box.length ≤ lim) : FWp Tryd.prog 7 [.agg #[.string (bs x.box), .int .i64 x.valid, .int .i64 x.mod, v]] H (fun v' H' => Fresh Kd.str.slice H H' [v'] (cacheWords x)) := by
  refine FWp.enterK Tryd.func7 rfl (by decide +kernel) rfl rfl fun Q q => ?_
  refine CWp.seqK fun Kk1 k1 => ?_
  refine CWp.regionW [1] ?_
  refine VC.s rfl (RVs.box rfl TyOf.h rfl rfl rfl ?_)
  intro b1 H1 g1 l1 a1
  have lo1 := Nat.le_trans (List.IsPrefix.length_le (List.prefix_refl H)) l1
  have p1 := (List.prefix_refl H).trans g1
  refine VC.s rfl (RVs.assign rfl rfl (fun _ => rfl) ?_)
  refine VC.nil (k1 ⟨23, [(1, _)]⟩ _ ?_)
  refine CWp.seqK fun Kk2 k2 => ?_
  refine CWp.seqK fun Kk3 k3 => ?_
  refine CWp.regionW [1, 6] ?_
  refine VC.s rfl (RVs.load_agg rfl TyOf.h rfl (fun _ => ⟨rfl, a1, rw_live, Nat.le_of_ble_eq_true rfl, rfl⟩) ?_)
  refine VC.s rfl (RVs.callp rfl rfl rfl (fun _ => ⟨⟨rfl, rfl⟩, iCacheOk _ _ _ (hS.mono (hle p1)) hb⟩) ?_)
  refine VC.s rfl (RVs.not rfl rfl (fun _ => rfl) ?_)
  refine VC.nil (k3 ⟨23, [(1, _), (6, _)]⟩ _ ?_)
  refine CWp.condV rfl (fun hc1 => ?_) (fun hc1 => ?_)
  · have hko : cacheOk x = false := by simpa using hc1
    refine CWp.seqK fun Kk4 k4 => ?_
    refine CWp.regionW [2] ?_
    refine VC.s rfl (RVs.assign rfl rfl (fun _ => rfl) ?_)
    refine VC.nil (k4 ⟨23, [(2, _)]⟩ _ ?_)
    refine CWp.ret (q _ _ _ (.cons (.tmp rfl) .nil) ?_).1
    rw [cacheWords_bad hko]
    exact fresh_nil p1
  · have hko : cacheOk x = true := by simpa using hc1
    have hrg := cacheOk_range hko
    refine CWp.skip ?_
    refine k2 _ _ ?_
    refine CWp.seqK fun Kk5 k5 => ?_
    refine CWp.regionW [1, 3] ?_
    refine VC.s rfl (RVs.fieldAddr rfl FieldOf.h (by decide) rfl (fun _ => rfl) ?_)
    refine VC.s rfl (RVs.load rfl TyOf.h rfl (fun _ => ⟨rfl, a1, rw_live, rfl⟩) ?_)
    refine VC.s rfl (RVs.buildS ElemOf.h ZeroOf.h rfl rfl rfl (by decide) rfl rfl rfl ?_)
    intro b2 H2 g2 l2 a2
    have lt1 := Nat.lt_of_lt_of_le (lt_of_at a1) l2
    have lo2 := Nat.le_trans (List.IsPrefix.length_le p1) l2
    have p2 := p1.trans g2
    have a3 := get_prefix g2 a1
    refine VC.s rfl (RVs.assign rfl rfl (fun _ => rfl) ?_)
    refine VC.nil (k5 ⟨23, [(1, _), (3, _)]⟩ _ ?_)
    refine CWp.seqK fun Kk6 k6 => ?_
    refine CWp.seqK fun Kk7 k7 => ?_
    refine CWp.regionW [1, 3, 12] ?_
    refine VC.s rfl (RVs.fieldAddr rfl FieldOf.h (by decide) rfl (fun _ => rfl) ?_)
    refine VC.s rfl (RVs.load rfl TyOf.h rfl (fun _ => ⟨rfl, a3, rw_live, rfl⟩) ?_)
    refine VC.s rfl (RVs.bin rfl rfl rfl rfl (fun _ => ⟨⟨rfl, rfl⟩, rfl⟩) ?_)
    refine VC.nil (k7 ⟨23, [(1, _), (3, _), (12, _)]⟩ _ ?_)
    refine CWp.condV rfl (fun hc2 => ?_) (fun hc2 => ?_)
    · try simp at hc2
      refine CWp.regionDW [3] [false, false, false, false, false, false, false, false, true, false] (by decide +kernel) ?_
      refine VC.s rfl (RVs.move rfl rfl (fun _ => rfl) ?_)
      refine VC.s rfl (RVs.fieldAddr rfl FieldOf.h (by decide) rfl (fun _ => rfl) ?_)
      refine VC.s rfl (RVs.load rfl TyOf.h rfl (fun _ => ⟨rfl, a3, rw_live, rfl⟩) ?_)
      refine VC.s rfl (RVs.callp rfl rfl rfl (fun _ => ⟨⟨rfl, rfl⟩, iDecimal _ _ (by omega) (by unfold lim; omega)⟩) ?_)
      refine VC.s rfl (RVs.fieldAddr rfl FieldOf.h (by decide) rfl (fun _ => rfl) ?_)
      refine VC.s rfl (RVs.load rfl TyOf.h rfl (fun _ => ⟨rfl, a3, rw_live, rfl⟩) ?_)
      refine VC.s rfl (RVs.callp rfl rfl rfl (fun _ => ⟨⟨rfl, rfl⟩, iDecimal _ _ (by omega) (by unfold lim; omega)⟩) ?_)
      refine VC.s rfl (RVs.buildS ElemOf.h ZeroOf.h rfl rfl rfl (by decide) rfl rfl rfl ?_)
      intro b3 H3 g3 l3 a4
      have lt2 := Nat.lt_of_lt_of_le (lt_of_at a3) l3
      have lt3 := Nat.lt_of_lt_of_le (lt_of_at a2) l3
      have lo3 := Nat.le_trans (List.IsPrefix.length_le p2) l3
      have p3 := p2.trans g3
      have a5 := get_prefix g3 a3
      have a6 := get_prefix g3 a2
      refine VC.s rfl (RVs.appendG (m := 2) rfl rfl ElemOf.h ElOk.h UnSl.h rfl rfl rfl ⟨rfl, rfl⟩ (.sl a4 rw_live (Nat.le_of_ble_eq_true rfl)) a6 rfl rfl rfl rfl rfl (by decide) (by decide) ?_)
      intro b4 H4 ch1 l4 a7
      have lo4 := Nat.le_trans (List.IsPrefix.length_le p3) l4
      have p4 := ch1.prefix p3 (by intro i hi; rw [List.mem_singleton.1 hi]; exact lo2)
      have a8 := (ch1.2 _ (lt_of_at a5) (by rw [List.mem_singleton]; exact (Nat.ne_of_lt lt1))).trans a5
      have a9 := (ch1.2 _ (lt_of_at a4) (by rw [List.mem_singleton]; exact (Nat.ne_of_gt lt3))).trans a4
      refine VC.s rfl (RVs.assign rfl rfl (fun _ => rfl) ?_)
      refine VC.nil (k6 ⟨23, [(3, _)]⟩ _ ?_)
      refine CWp.seqK fun Kk8 k8 => ?_
      refine CWp.regionW [2] ?_
      refine VC.s rfl (RVs.move rfl rfl (fun _ => rfl) ?_)
      refine VC.s rfl (RVs.assign rfl rfl (fun _ => rfl) ?_)
      refine VC.nil (k8 ⟨23, [(2, _)]⟩ _ ?_)
      refine CWp.ret (q _ _ _ (.cons (.tmp rfl) .nil) ?_).1
      rw [cacheWords_4 hko (by omega)]
      exact fresh_build str_Flat p4 lo4 a7 (strs_Rs [_, _, _, _] (by intro y hy; simp at hy; rcases hy with rfl | rfl | rfl | rfl <;> first | exact hb | exact decL_lim (by omega) (by unfold lim; omega) | (simp; decide))) rfl (by decide)
    · try simp at hc2
      refine CWp.skip ?_
      refine k6 _ _ ?_
      refine CWp.seqK fun Kk9 k9 => ?_
      refine CWp.regionW [2] ?_
      refine VC.s rfl (RVs.move rfl rfl (fun _ => rfl) ?_)
      refine VC.s rfl (RVs.assign rfl rfl (fun _ => rfl) ?_)
      refine VC.nil (k9 ⟨23, [(2, _)]⟩ _ ?_)
      refine CWp.ret (q _ _ _ (.cons (.tmp rfl) .nil) ?_).1
      rw [cacheWords_2 hko (by omega)]
      exact fresh_build str_Flat p2 lo2 a2 (strs_Rs [_, _] (by intro y hy; simp at hy; rcases hy with rfl | rfl <;> first | exact hb | (simp; decide))) rfl (by decide)

end Go.Proofs.YtohfajiimbchhaaDoor
