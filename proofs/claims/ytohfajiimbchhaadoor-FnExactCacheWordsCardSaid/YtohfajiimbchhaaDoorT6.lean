/- The walks of the functions that look whether names, numbers and caches are right. -/
import Derived.Test.YtohfajiimbchhaaDoorT3
import Derived.Test.YtohfajiimbchhaaDoorT4
namespace Go.Proofs.YtohfajiimbchhaaDoor
open Go Go.RowKit
set_option linter.unusedVariables false
set_option maxRecDepth 20000
variable [Tabs]

theorem l01In (x a b : Int) (H : AH) : FWp Tryd.prog 22 [.int .i64 x, .int .i64 a, .int .i64 b] H (fun v' H' => v' = .bool (decide (a ≤ x ∧ x ≤ b)) ∧ H' = H) := by
  refine FWp.pure rfl fun H ph => ?_
  refine FWp.enterK Tryd.func22 rfl (by decide +kernel) rfl rfl fun Q q => ?_
  refine CWp.seqK fun Kk1 k1 => ?_
  refine CWp.regionW [0, 1, 2] ?_
  refine VC.s rfl (RVs.assign rfl rfl (fun _ => rfl) ?_)
  refine VC.nil (k1 ⟨15, [(0, _), (1, _), (2, _)]⟩ _ ?_)
  refine CWp.seqK fun Kk2 k2 => ?_
  refine CWp.regionW [6] ?_
  refine VC.s rfl (RVs.move rfl rfl (fun _ => rfl) ?_)
  refine VC.s rfl (RVs.move rfl rfl (fun _ => rfl) ?_)
  refine VC.s rfl (RVs.bin rfl rfl rfl rfl (fun _ => ⟨⟨rfl, rfl⟩, rfl⟩) ?_)
  refine VC.s rfl (RVs.move rfl rfl (fun _ => rfl) ?_)
  refine VC.s rfl (RVs.move rfl rfl (fun hg => (by first | rfl | exact hg | (simp_all [GF.cond, GF.conds, GF.get, GF.put, AF.toG]))) ?_)
  refine VC.s rfl (RVs.move rfl rfl (fun hg => (by first | rfl | exact hg | (simp_all [GF.cond, GF.conds, GF.get, GF.put, AF.toG]))) ?_)
  refine VC.s rfl (RVs.bin rfl rfl rfl rfl (fun hg => ⟨⟨(by first | rfl | exact hg | (simp_all [GF.cond, GF.conds, GF.get, GF.put, AF.toG])), (by first | rfl | exact hg | (simp_all [GF.cond, GF.conds, GF.get, GF.put, AF.toG]))⟩, rfl⟩) ?_)
  refine VC.s rfl (RVs.pick rfl rfl rfl rfl (fun _ => ⟨rfl, fun hh => by first | rfl | simpa [GF.cond, GF.get, GF.put, AF.toG] using hh, fun hh => by first | rfl | simpa [GF.cond, GF.get, GF.put, AF.toG] using hh⟩) ?_)
  refine VC.s rfl (RVs.assign rfl rfl (fun _ => rfl) ?_)
  refine VC.nil (k2 ⟨15, [(6, _)]⟩ _ ?_)
  refine CWp.ret (q _ _ _ (.cons (.tmp rfl) .nil) ?_).1
  exact ⟨by simp [one], (List.prefix_refl H)⟩

theorem within (x a b : Int) (H : AH) : FWp Tryd.prog 29 [.int .i64 x, .int .i64 a, .int .i64 b] H (fun v' H' => v' = .bool (decide (a ≤ x ∧ x ≤ b)) ∧ H' = H) := by
  refine FWp.pure rfl fun H ph => ?_
  refine FWp.enterK Tryd.func29 rfl (by decide +kernel) rfl rfl fun Q q => ?_
  refine CWp.seqK fun Kk1 k1 => ?_
  refine CWp.regionW [0, 1, 2] ?_
  refine VC.s rfl (RVs.assign rfl rfl (fun _ => rfl) ?_)
  refine VC.nil (k1 ⟨15, [(0, _), (1, _), (2, _)]⟩ _ ?_)
  refine CWp.seqK fun Kk2 k2 => ?_
  refine CWp.regionW [6] ?_
  refine VC.s rfl (RVs.move rfl rfl (fun _ => rfl) ?_)
  refine VC.s rfl (RVs.move rfl rfl (fun _ => rfl) ?_)
  refine VC.s rfl (RVs.bin rfl rfl rfl rfl (fun _ => ⟨⟨rfl, rfl⟩, rfl⟩) ?_)
  refine VC.s rfl (RVs.move rfl rfl (fun _ => rfl) ?_)
  refine VC.s rfl (RVs.move rfl rfl (fun hg => (by first | rfl | exact hg | (simp_all [GF.cond, GF.conds, GF.get, GF.put, AF.toG]))) ?_)
  refine VC.s rfl (RVs.move rfl rfl (fun hg => (by first | rfl | exact hg | (simp_all [GF.cond, GF.conds, GF.get, GF.put, AF.toG]))) ?_)
  refine VC.s rfl (RVs.bin rfl rfl rfl rfl (fun hg => ⟨⟨(by first | rfl | exact hg | (simp_all [GF.cond, GF.conds, GF.get, GF.put, AF.toG])), (by first | rfl | exact hg | (simp_all [GF.cond, GF.conds, GF.get, GF.put, AF.toG]))⟩, rfl⟩) ?_)
  refine VC.s rfl (RVs.pick rfl rfl rfl rfl (fun _ => ⟨rfl, fun hh => by first | rfl | simpa [GF.cond, GF.get, GF.put, AF.toG] using hh, fun hh => by first | rfl | simpa [GF.cond, GF.get, GF.put, AF.toG] using hh⟩) ?_)
  refine VC.s rfl (RVs.assign rfl rfl (fun _ => rfl) ?_)
  refine VC.nil (k2 ⟨15, [(6, _)]⟩ _ ?_)
  refine CWp.ret (q _ _ _ (.cons (.tmp rfl) .nil) ?_).1
  exact ⟨by simp [one], (List.prefix_refl H)⟩

theorem sFlagsOk (x : Int) (H : AH) : FWp Tryd.prog 23 [.int .i64 x] H (fun v' H' => v' = .bool (decide (0 ≤ x ∧ x ≤ 31)) ∧ H' = H) := by
  refine FWp.pure rfl fun H ph => ?_
  refine FWp.enterK Tryd.func23 rfl (by decide +kernel) rfl rfl fun Q q => ?_
  refine CWp.seqK fun Kk1 k1 => ?_
  refine CWp.regionW [0] ?_
  refine VC.s rfl (RVs.assign rfl rfl (fun _ => rfl) ?_)
  refine VC.nil (k1 ⟨5, [(0, _)]⟩ _ ?_)
  refine CWp.seqK fun Kk2 k2 => ?_
  refine CWp.regionW [2] ?_
  refine VC.s rfl (RVs.move rfl rfl (fun _ => rfl) ?_)
  refine VC.s rfl (RVs.callp rfl rfl rfl (fun _ => ⟨⟨rfl, rfl⟩, l01In _ _ _ _⟩) ?_)
  refine VC.s rfl (RVs.assign rfl rfl (fun _ => rfl) ?_)
  refine VC.nil (k2 ⟨5, [(2, _)]⟩ _ ?_)
  refine CWp.ret (q _ _ _ (.cons (.tmp rfl) .nil) ?_).1
  exact ⟨rfl, (List.prefix_refl H)⟩

theorem iFlagsOk (x : Int) (H : AH) : FWp Tryd.prog 28 [.int .i64 x] H (fun v' H' => v' = .bool (decide (0 ≤ x ∧ x ≤ 31)) ∧ H' = H) := by
  refine FWp.pure rfl fun H ph => ?_
  refine FWp.enterK Tryd.func28 rfl (by decide +kernel) rfl rfl fun Q q => ?_
  refine CWp.seqK fun Kk1 k1 => ?_
  refine CWp.regionW [0] ?_
  refine VC.s rfl (RVs.assign rfl rfl (fun _ => rfl) ?_)
  refine VC.nil (k1 ⟨5, [(0, _)]⟩ _ ?_)
  refine CWp.seqK fun Kk2 k2 => ?_
  refine CWp.regionW [2] ?_
  refine VC.s rfl (RVs.move rfl rfl (fun _ => rfl) ?_)
  refine VC.s rfl (RVs.callp rfl rfl rfl (fun _ => ⟨⟨rfl, rfl⟩, within _ _ _ _⟩) ?_)
  refine VC.s rfl (RVs.assign rfl rfl (fun _ => rfl) ?_)
  refine VC.nil (k2 ⟨5, [(2, _)]⟩ _ ?_)
  refine CWp.ret (q _ _ _ (.cons (.tmp rfl) .nil) ?_).1
  exact ⟨rfl, (List.prefix_refl H)⟩

theorem isUid (x : Int) (H : AH) : FWp Tryd.prog 27 [.int .i64 x] H (fun v' H' => v' = .bool (decide (1 ≤ x ∧ x ≤ 9999)) ∧ H' = H) := by
  refine FWp.pure rfl fun H ph => ?_
  refine FWp.enterK Tryd.func27 rfl (by decide +kernel) rfl rfl fun Q q => ?_
  refine CWp.seqK fun Kk1 k1 => ?_
  refine CWp.regionW [0] ?_
  refine VC.s rfl (RVs.assign rfl rfl (fun _ => rfl) ?_)
  refine VC.nil (k1 ⟨5, [(0, _)]⟩ _ ?_)
  refine CWp.seqK fun Kk2 k2 => ?_
  refine CWp.regionW [2] ?_
  refine VC.s rfl (RVs.move rfl rfl (fun _ => rfl) ?_)
  refine VC.s rfl (RVs.callp rfl rfl rfl (fun _ => ⟨⟨rfl, rfl⟩, within _ _ _ _⟩) ?_)
  refine VC.s rfl (RVs.assign rfl rfl (fun _ => rfl) ?_)
  refine VC.nil (k2 ⟨5, [(2, _)]⟩ _ ?_)
  refine CWp.ret (q _ _ _ (.cons (.tmp rfl) .nil) ?_).1
  exact ⟨rfl, (List.prefix_refl H)⟩

theorem sBoxName (s : List UInt8) (H : AH) (hs : s.length ≤ lim) : FWp Tryd.prog 24 [.string (bs s)] H (fun v' H' => v' = .bool (boxName s) ∧ H' = H) := by
  refine FWp.pure rfl fun H ph => ?_
  refine FWp.enterK Tryd.func24 rfl (by decide +kernel) rfl rfl fun Q q => ?_
  refine CWp.seqK fun Kk1 k1 => ?_
  refine CWp.regionW [0] ?_
  refine VC.s rfl (RVs.assign rfl rfl (fun _ => rfl) ?_)
  refine VC.nil (k1 ⟨23, [(0, _)]⟩ _ ?_)
  refine CWp.seqK fun Kk2 k2 => ?_
  refine CWp.seqK fun Kk3 k3 => ?_
  refine CWp.regionW [0, 3] ?_
  refine VC.s rfl (RVs.assign rfl rfl (fun _ => rfl) ?_)
  refine VC.nil (k3 ⟨23, [(0, _), (3, _)]⟩ _ ?_)
  refine CWp.block ?_
  refine CWp.loopK (fun n T H' => ∃ i : Nat, T = ⟨23, [(0, .string (bs s)), (3, .int .i64 (i : Int))]⟩ ∧ n = s.length - i ∧ (i ≤ s.length) ∧ ((s.take i).all lower = true) ∧ H <+: H') (n := s.length) ⟨0, rfl, by first | rfl | simp, by omega, by simp, List.prefix_refl _⟩ ?_
  rintro n T Hl1 Kk4 k4 ⟨i, rfl, hn1, hi, ha, pl1⟩
  have p1 := (List.prefix_refl H).trans pl1
  refine CWp.seqK fun Kk5 k5 => ?_
  refine CWp.seqK fun Kk6 k6 => ?_
  refine CWp.regionW [0, 3, 7] ?_
  refine VC.s rfl (RVs.move rfl rfl (fun _ => rfl) ?_)
  refine VC.s rfl (RVs.move rfl rfl (fun _ => rfl) ?_)
  refine VC.s rfl (RVs.len_string rfl UnStr.h rfl (fun _ => rfl) ?_)
  refine VC.s rfl (RVs.bin rfl rfl rfl rfl (fun _ => ⟨⟨rfl, rfl⟩, rfl⟩) ?_)
  refine VC.nil (k6 ⟨23, [(0, _), (3, _), (7, _)]⟩ _ ?_)
  refine CWp.condV rfl (fun hc1 => ?_) (fun hc1 => ?_)
  · try simp at hc1
    refine CWp.skip ?_
    refine k5 _ _ ?_
    refine CWp.seqK fun Kk7 k7 => ?_
    refine CWp.block ?_
    refine CWp.seqK fun Kk8 k8 => ?_
    refine CWp.regionW [0, 3, 19] ?_
    refine VC.s rfl (RVs.move rfl rfl (fun _ => rfl) ?_)
    refine VC.s rfl (RVs.move rfl rfl (fun _ => rfl) ?_)
    refine VC.s rfl (RVs.index rfl rfl UnStr.h rfl (fun _ => ⟨⟨rfl, rfl⟩, by omega, by simp; omega⟩) ?_)
    refine VC.s rfl (RVs.bin rfl rfl rfl rfl (fun _ => ⟨⟨rfl, rfl⟩, rfl⟩) ?_)
    refine VC.s rfl (RVs.move rfl rfl (fun _ => rfl) ?_)
    refine VC.s rfl (RVs.move rfl rfl (fun hg => (by first | rfl | exact hg | (simp_all [GF.cond, GF.conds, GF.get, GF.put, AF.toG]))) ?_)
    refine VC.s rfl (RVs.move rfl rfl (fun hg => (by first | rfl | exact hg | (simp_all [GF.cond, GF.conds, GF.get, GF.put, AF.toG]))) ?_)
    refine VC.s rfl (RVs.index rfl rfl UnStr.h rfl (fun hg => ⟨⟨(by first | rfl | exact hg | (simp_all [GF.cond, GF.conds, GF.get, GF.put, AF.toG])), (by first | rfl | exact hg | (simp_all [GF.cond, GF.conds, GF.get, GF.put, AF.toG]))⟩, by omega, by simp; omega⟩) ?_)
    refine VC.s rfl (RVs.bin rfl rfl rfl rfl (fun hg => ⟨⟨(by first | rfl | exact hg | (simp_all [GF.cond, GF.conds, GF.get, GF.put, AF.toG])), (by first | rfl | exact hg | (simp_all [GF.cond, GF.conds, GF.get, GF.put, AF.toG]))⟩, rfl⟩) ?_)
    refine VC.s rfl (RVs.pick rfl rfl rfl rfl (fun _ => ⟨rfl, fun hh => by first | rfl | simpa [GF.cond, GF.get, GF.put, AF.toG] using hh, fun hh => by first | rfl | simpa [GF.cond, GF.get, GF.put, AF.toG] using hh⟩) ?_)
    refine VC.nil (k8 ⟨23, [(0, _), (3, _), (19, _)]⟩ _ ?_)
    refine CWp.condV rfl (fun hc2 => ?_) (fun hc2 => ?_)
    · simp [byteAt_bs hc1] at hc2
      refine CWp.seqK fun Kk9 k9 => ?_
      refine CWp.regionW [2] ?_
      refine VC.s rfl (RVs.assign rfl rfl (fun _ => rfl) ?_)
      refine VC.nil (k9 ⟨23, [(2, _)]⟩ _ ?_)
      refine CWp.ret (q _ _ _ (.cons (.tmp rfl) .nil) ?_).1
      exact ⟨by simp [one, bn_bad hc1 (show ¬ (97 ≤ s[i].toNat ∧ s[i].toNat ≤ 122) by omega)], p1⟩
    · simp [byteAt_bs hc1] at hc2
      refine CWp.skip ?_
      refine k7 _ _ ?_
      refine CWp.regionW [0, 3] ?_
      refine VC.s rfl (RVs.move rfl rfl (fun _ => rfl) ?_)
      refine VC.s rfl (RVs.bin rfl rfl rfl rfl (fun _ => ⟨⟨rfl, rfl⟩, rfl⟩) ?_)
      refine VC.s rfl (RVs.assign rfl rfl (fun _ => rfl) ?_)
      rw [wrap_succ (n := s.length) (by omega) hs]
      refine VC.nil (k4 _ ⟨23, [(0, _), (3, _)]⟩ _ ?_ ⟨i + 1, rfl, rfl, by omega, bn_step ha hc1 (by omega), pl1.trans (List.prefix_refl _)⟩)
      omega
  · try simp at hc1
    refine CWp.exit ?_
    refine k2 _ _ ?_
    refine CWp.seqK fun Kk10 k10 => ?_
    refine CWp.regionW [2] ?_
    refine VC.s rfl (RVs.move rfl rfl (fun _ => rfl) ?_)
    refine VC.s rfl (RVs.len_string rfl UnStr.h rfl (fun _ => rfl) ?_)
    refine VC.s rfl (RVs.callp rfl rfl rfl (fun _ => ⟨⟨rfl, rfl⟩, l01In _ _ _ _⟩) ?_)
    refine VC.s rfl (RVs.assign rfl rfl (fun _ => rfl) ?_)
    refine VC.nil (k10 ⟨23, [(2, _)]⟩ _ ?_)
    refine CWp.ret (q _ _ _ (.cons (.tmp rfl) .nil) ?_).1
    exact ⟨by simp only [one, bl_bs]; rw [bn_end ha (by omega)]; exact congrArg Value.bool (decide_eq_decide.2 (by omega)), p1⟩

theorem iBoxName (s : List UInt8) (H : AH) (hs : s.length ≤ lim) : FWp Tryd.prog 30 [.string (bs s)] H (fun v' H' => v' = .bool (boxName s) ∧ H' = H) := by
  refine FWp.pure rfl fun H ph => ?_
  refine FWp.enterK Tryd.func30 rfl (by decide +kernel) rfl rfl fun Q q => ?_
  refine CWp.seqK fun Kk1 k1 => ?_
  refine CWp.regionW [0] ?_
  refine VC.s rfl (RVs.assign rfl rfl (fun _ => rfl) ?_)
  refine VC.nil (k1 ⟨19, [(0, _)]⟩ _ ?_)
  refine CWp.seqK fun Kk2 k2 => ?_
  refine CWp.seqK fun Kk3 k3 => ?_
  refine CWp.regionW [0, 5, 6] ?_
  refine VC.s rfl (RVs.move rfl rfl (fun _ => rfl) ?_)
  refine VC.s rfl (RVs.len_string rfl UnStr.h rfl (fun _ => rfl) ?_)
  refine VC.s rfl (RVs.move rfl rfl (fun _ => rfl) ?_)
  refine VC.nil (k3 ⟨19, [(0, _), (5, _), (6, _)]⟩ _ ?_)
  refine CWp.block ?_
  refine CWp.loopK (fun n T H' => ∃ i : Nat, T = ⟨19, [(0, .string (bs s)), (5, .int .i64 (s.length : Int)), (6, .int .i64 (i : Int))]⟩ ∧ n = s.length - i ∧ (i ≤ s.length) ∧ ((s.take i).all lower = true) ∧ H <+: H') (n := s.length) ⟨0, by simp, by first | rfl | simp, by omega, by simp, List.prefix_refl _⟩ ?_
  rintro n T Hl1 Kk4 k4 ⟨i, rfl, hn1, hi, ha, pl1⟩
  have p1 := (List.prefix_refl H).trans pl1
  refine CWp.seqK fun Kk5 k5 => ?_
  refine CWp.regionW [0, 5, 6, 7] ?_
  refine VC.s rfl (RVs.bin rfl rfl rfl rfl (fun _ => ⟨⟨rfl, rfl⟩, rfl⟩) ?_)
  refine VC.nil (k5 ⟨19, [(0, _), (5, _), (6, _), (7, _)]⟩ _ ?_)
  refine CWp.seqK fun Kk6 k6 => ?_
  refine CWp.condV rfl (fun hc1 => ?_) (fun hc1 => ?_)
  · try simp at hc1
    refine CWp.skip ?_
    refine k6 _ _ ?_
    refine CWp.seqK fun Kk7 k7 => ?_
    refine CWp.block ?_
    refine CWp.seqK fun Kk8 k8 => ?_
    refine CWp.regionW [0, 3, 5, 6] ?_
    refine VC.s rfl (RVs.move rfl rfl (fun _ => rfl) ?_)
    refine VC.s rfl (RVs.assign rfl rfl (fun _ => rfl) ?_)
    refine VC.nil (k8 ⟨19, [(0, _), (3, _), (5, _), (6, _)]⟩ _ ?_)
    refine CWp.seqK fun Kk9 k9 => ?_
    refine CWp.regionW [0, 5, 6, 14] ?_
    refine VC.s rfl (RVs.move rfl rfl (fun _ => rfl) ?_)
    refine VC.s rfl (RVs.move rfl rfl (fun _ => rfl) ?_)
    refine VC.s rfl (RVs.index rfl rfl UnStr.h rfl (fun _ => ⟨⟨rfl, rfl⟩, by omega, by simp; omega⟩) ?_)
    refine VC.s rfl (RVs.conv_int rfl UnInt.h UnInt.h rfl (fun _ => rfl) ?_)
    refine VC.s rfl (RVs.callp rfl rfl rfl (fun _ => ⟨⟨rfl, rfl⟩, within _ _ _ _⟩) ?_)
    refine VC.s rfl (RVs.not rfl rfl (fun _ => rfl) ?_)
    refine VC.nil (k9 ⟨19, [(0, _), (5, _), (6, _), (14, _)]⟩ _ ?_)
    refine CWp.condV rfl (fun hc2 => ?_) (fun hc2 => ?_)
    · simp [byteAt_bs hc1] at hc2
      have hlt := UInt8.toNat_lt s[i]
      rw [wrap_in (by omega)] at hc2
      refine CWp.seqK fun Kk10 k10 => ?_
      refine CWp.regionW [2] ?_
      refine VC.s rfl (RVs.assign rfl rfl (fun _ => rfl) ?_)
      refine VC.nil (k10 ⟨19, [(2, _)]⟩ _ ?_)
      refine CWp.ret (q _ _ _ (.cons (.tmp rfl) .nil) ?_).1
      exact ⟨by simp [one, bn_bad hc1 (show ¬ (97 ≤ s[i].toNat ∧ s[i].toNat ≤ 122) by omega)], p1⟩
    · simp [byteAt_bs hc1] at hc2
      have hlt := UInt8.toNat_lt s[i]
      rw [wrap_in (by omega)] at hc2
      refine CWp.skip ?_
      refine k7 _ _ ?_
      refine CWp.regionW [0, 5, 6] ?_
      refine VC.s rfl (RVs.bin rfl rfl rfl rfl (fun _ => ⟨⟨rfl, rfl⟩, rfl⟩) ?_)
      refine VC.s rfl (RVs.move rfl rfl (fun _ => rfl) ?_)
      rw [wrap_succ (n := s.length) (by omega) hs]
      refine VC.nil (k4 _ ⟨19, [(0, _), (5, _), (6, _)]⟩ _ ?_ ⟨i + 1, rfl, rfl, by omega, bn_step ha hc1 (by omega), pl1.trans (List.prefix_refl _)⟩)
      omega
  · try simp at hc1
    refine CWp.exit ?_
    refine k2 _ _ ?_
    refine CWp.seqK fun Kk11 k11 => ?_
    refine CWp.regionW [2] ?_
    refine VC.s rfl (RVs.move rfl rfl (fun _ => rfl) ?_)
    refine VC.s rfl (RVs.len_string rfl UnStr.h rfl (fun _ => rfl) ?_)
    refine VC.s rfl (RVs.callp rfl rfl rfl (fun _ => ⟨⟨rfl, rfl⟩, within _ _ _ _⟩) ?_)
    refine VC.s rfl (RVs.assign rfl rfl (fun _ => rfl) ?_)
    refine VC.nil (k11 ⟨19, [(2, _)]⟩ _ ?_)
    refine CWp.ret (q _ _ _ (.cons (.tmp rfl) .nil) ?_).1
    exact ⟨by simp only [one, bl_bs]; rw [bn_end ha (by omega)]; exact congrArg Value.bool (decide_eq_decide.2 (by omega)), p1⟩

end Go.Proofs.YtohfajiimbchhaaDoor
