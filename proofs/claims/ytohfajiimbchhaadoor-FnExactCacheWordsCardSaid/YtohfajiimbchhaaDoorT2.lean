/- The walks of the functions that compare, mark and check lists of words. -/
import Derived.Test.YtohfajiimbchhaaDoorFacts
namespace Go.Proofs.YtohfajiimbchhaaDoor
open Go Go.RowKit
set_option linter.unusedVariables false
set_option maxRecDepth 20000
variable [Tabs]

theorem eqStringS (va vb : Value) (xs ys : List (List UInt8)) (H : AH) (ha : Kd.str.S H va xs) (hb : Kd.str.S H vb ys) : FWp Tryd.prog 8 [va, vb] H (fun v' H' => v' = .bool (decide (xs = ys)) ∧ H' = H) := by
  refine FWp.pure rfl fun H ph => ?_
  replace ha := ha.mono (hle ph)
  replace hb := hb.mono (hle ph)
  have hla := ha.lim
  have hlb := hb.lim
  obtain ⟨aa, ca, rfl, hca⟩ := ha.form
  obtain ⟨ab, cb, rfl, hcb⟩ := hb.form
  refine FWp.enterK Tryd.func8 rfl (by decide +kernel) rfl rfl fun Q q => ?_
  refine CWp.seqK fun Kk1 k1 => ?_
  refine CWp.regionW [0, 1] ?_
  refine VC.s rfl (RVs.assign rfl rfl (fun _ => rfl) ?_)
  refine VC.nil (k1 ⟨26, [(0, _), (1, _)]⟩ _ ?_)
  refine CWp.seqK fun Kk2 k2 => ?_
  refine CWp.seqK fun Kk3 k3 => ?_
  refine CWp.regionW [0, 1, 10] ?_
  refine VC.s rfl (RVs.move rfl rfl (fun _ => rfl) ?_)
  refine VC.s rfl (RVs.len_slice rfl UnSl.h rfl (fun _ => rfl) ?_)
  refine VC.s rfl (RVs.move rfl rfl (fun _ => rfl) ?_)
  refine VC.s rfl (RVs.len_slice rfl UnSl.h rfl (fun _ => rfl) ?_)
  refine VC.s rfl (RVs.bin rfl rfl rfl rfl (fun _ => ⟨⟨rfl, rfl⟩, rfl⟩) ?_)
  refine VC.nil (k3 ⟨26, [(0, _), (1, _), (10, _)]⟩ _ ?_)
  refine CWp.condV rfl (fun hc1 => ?_) (fun hc1 => ?_)
  · try simp at hc1
    refine CWp.seqK fun Kk4 k4 => ?_
    refine CWp.regionW [4] ?_
    refine VC.s rfl (RVs.assign rfl rfl (fun _ => rfl) ?_)
    refine VC.nil (k4 ⟨26, [(4, _)]⟩ _ ?_)
    refine CWp.ret (q _ _ _ (.cons (.tmp rfl) .nil) ?_).1
    exact ⟨by simp [one, show ¬ xs = ys from fun h => hc1 (by rw [h])], (List.prefix_refl H)⟩
  · try simp at hc1
    refine CWp.skip ?_
    refine k2 _ _ ?_
    refine CWp.seqK fun Kk5 k5 => ?_
    refine CWp.seqK fun Kk6 k6 => ?_
    refine CWp.regionW [0, 1, 5] ?_
    refine VC.s rfl (RVs.assign rfl rfl (fun _ => rfl) ?_)
    refine VC.nil (k6 ⟨26, [(0, _), (1, _), (5, _)]⟩ _ ?_)
    refine CWp.block ?_
    refine CWp.loopK (fun n T H' => ∃ i : Nat, T = ⟨26, [(0, .slice aa xs.length ca), (1, .slice ab ys.length cb), (5, .int .i64 (i : Int))]⟩ ∧ n = xs.length - i ∧ (i ≤ xs.length) ∧ (xs.take i = ys.take i) ∧ H <+: H') (n := xs.length) ⟨0, rfl, by first | rfl | simp, by omega, by simp, List.prefix_refl _⟩ ?_
    rintro n T Hl1 Kk7 k7 ⟨i, rfl, hn1, hi, heq, pl1⟩
    have p1 := (List.prefix_refl H).trans pl1
    refine CWp.seqK fun Kk8 k8 => ?_
    refine CWp.seqK fun Kk9 k9 => ?_
    refine CWp.regionW [0, 1, 5, 14] ?_
    refine VC.s rfl (RVs.move rfl rfl (fun _ => rfl) ?_)
    refine VC.s rfl (RVs.move rfl rfl (fun _ => rfl) ?_)
    refine VC.s rfl (RVs.len_slice rfl UnSl.h rfl (fun _ => rfl) ?_)
    refine VC.s rfl (RVs.bin rfl rfl rfl rfl (fun _ => ⟨⟨rfl, rfl⟩, rfl⟩) ?_)
    refine VC.nil (k9 ⟨26, [(0, _), (1, _), (5, _), (14, _)]⟩ _ ?_)
    refine CWp.condV rfl (fun hc2 => ?_) (fun hc2 => ?_)
    · try simp at hc2
      refine CWp.skip ?_
      refine k8 _ _ ?_
      refine CWp.seqK fun Kk10 k10 => ?_
      refine CWp.block ?_
      refine CWp.seqK fun Kk11 k11 => ?_
      refine CWp.regionDW [0, 1, 5, 25] [false, false, false, false, false, false, false, false, false] (by decide +kernel) ?_
      refine VC.s rfl (RVs.move rfl rfl (fun _ => rfl) ?_)
      refine VC.s rfl (RVs.move rfl rfl (fun _ => rfl) ?_)
      refine VC.s rfl (RVs.indexS rfl (ha.mono (hle p1)) rfl ElemOf.h rfl (fun _ => ⟨⟨rfl, rfl⟩, by omega, by omega⟩) ?_)
      intro id1 j1 u1 B1 e1
      obtain ⟨y1, hy1, e1⟩ := e1 rfl
      obtain ⟨rfl, _⟩ := e1.r
      refine VC.s rfl (RVs.loadF (k := Kd.str) (f := 0) rfl TyOf.h rfl (fun _ => ⟨rfl, e1, by decide, rfl⟩) ?_)
      refine VC.s rfl (RVs.move rfl rfl (fun _ => rfl) ?_)
      refine VC.s rfl (RVs.move rfl rfl (fun _ => rfl) ?_)
      refine VC.s rfl (RVs.indexS rfl (hb.mono (hle p1)) rfl ElemOf.h rfl (fun _ => ⟨⟨rfl, rfl⟩, by omega, by omega⟩) ?_)
      intro id2 j2 u2 B2 e2
      obtain ⟨y2, hy2, e2⟩ := e2 rfl
      obtain ⟨rfl, _⟩ := e2.r
      refine VC.s rfl (RVs.loadF (k := Kd.str) (f := 0) rfl TyOf.h rfl (fun _ => ⟨rfl, e2, by decide, rfl⟩) ?_)
      refine VC.s rfl (RVs.bin rfl rfl rfl rfl (fun _ => ⟨⟨rfl, rfl⟩, trivial⟩) ?_)
      refine VC.nil (k11 ⟨26, [(0, _), (1, _), (5, _), (25, _)]⟩ _ ?_)
      refine CWp.condV rfl (fun hc3 => ?_) (fun hc3 => ?_)
      · try simp at hc3
        refine CWp.seqK fun Kk12 k12 => ?_
        refine CWp.regionW [4] ?_
        refine VC.s rfl (RVs.assign rfl rfl (fun _ => rfl) ?_)
        refine VC.nil (k12 ⟨26, [(4, _)]⟩ _ ?_)
        refine CWp.ret (q _ _ _ (.cons (.tmp rfl) .nil) ?_).1
        exact ⟨by simp [one, ne_at hy1 hy2 hc3], p1⟩
      · try simp at hc3
        refine CWp.skip ?_
        refine k10 _ _ ?_
        refine CWp.regionW [0, 1, 5] ?_
        refine VC.s rfl (RVs.move rfl rfl (fun _ => rfl) ?_)
        refine VC.s rfl (RVs.bin rfl rfl rfl rfl (fun _ => ⟨⟨rfl, rfl⟩, rfl⟩) ?_)
        refine VC.s rfl (RVs.assign rfl rfl (fun _ => rfl) ?_)
        rw [wrap_succ (n := xs.length) (by omega) (by omega)]
        refine VC.nil (k7 _ ⟨26, [(0, _), (1, _), (5, _)]⟩ _ ?_ ⟨i + 1, rfl, rfl, by omega, take_succ heq hy1 hy2 hc3, pl1.trans (List.prefix_refl _)⟩)
        omega
    · try simp at hc2
      refine CWp.exit ?_
      refine k5 _ _ ?_
      refine CWp.seqK fun Kk13 k13 => ?_
      refine CWp.regionW [4] ?_
      refine VC.s rfl (RVs.assign rfl rfl (fun _ => rfl) ?_)
      refine VC.nil (k13 ⟨26, [(4, _)]⟩ _ ?_)
      refine CWp.ret (q _ _ _ (.cons (.tmp rfl) .nil) ?_).1
      exact ⟨by simp [one, take_all heq (by omega) (by omega)], p1⟩

end Go.Proofs.YtohfajiimbchhaaDoor
