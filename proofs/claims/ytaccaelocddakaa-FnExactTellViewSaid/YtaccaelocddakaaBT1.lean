/- The walks of the functions that measure and compare boxes. -/
import Derived.Test.YtaccaelocddakaaBFacts
namespace Go.Proofs.Ytaccaelocddakaa
open Go Go.RowKit
set_option linter.unusedVariables false
set_option maxRecDepth 20000
variable [Tabs]

theorem l01In (x a b : Int) (H : AH) : FWp Try.prog 81 [.int .i64 x, .int .i64 a, .int .i64 b] H (fun v' H' => v' = .bool (decide (a ≤ x ∧ x ≤ b)) ∧ H' = H) := by
  refine FWp.pure rfl fun H ph => ?_
  refine FWp.enterK Try.func81 rfl (by decide +kernel) rfl rfl fun Q q => ?_
  refine CWp.seqK fun Kk1 k1 => ?_
  refine CWp.regionW [0, 1, 2] ?_
  refine VC.s rfl (RVs.assign rfl rfl (fun _ => rfl) ?_)
  refine VC.nil (k1 ⟨15, [(0, _), (1, _), (2, _)]⟩ _ ?_)
  refine CWp.seqK fun Kk2 k2 => ?_
  refine CWp.regionW [6] ?_
  refine VC.s rfl (RVs.move rfl rfl (fun _ => rfl) ?_)
  refine VC.s rfl (RVs.move rfl rfl (fun _ => rfl) ?_)
  refine VC.s rfl (RVs.bin rfl rfl rfl rfl (fun _ => ⟨⟨rfl, rfl⟩, rfl⟩) ?_)
  refine VC.s rfl (RVs.move rfl rfl (fun _ => rfl) ?_)
  refine VC.s rfl (RVs.move rfl rfl (fun hg => (by first | rfl | exact hg | (simp_all [GF.cond, GF.conds, GF.get, GF.put, AF.toG]))) ?_)
  refine VC.s rfl (RVs.move rfl rfl (fun hg => (by first | rfl | exact hg | (simp_all [GF.cond, GF.conds, GF.get, GF.put, AF.toG]))) ?_)
  refine VC.s rfl (RVs.bin rfl rfl rfl rfl (fun hg => ⟨⟨(by first | rfl | exact hg | (simp_all [GF.cond, GF.conds, GF.get, GF.put, AF.toG])), (by first | rfl | exact hg | (simp_all [GF.cond, GF.conds, GF.get, GF.put, AF.toG]))⟩, rfl⟩) ?_)
  refine VC.s rfl (RVs.pick rfl rfl rfl rfl (fun hg => ⟨rfl, fun hh => by first | rfl | exact pk_t hh rfl | exact pk_t hh hg, fun hh => by first | rfl | exact pk_f hh rfl | exact pk_f hh hg⟩) ?_)
  refine VC.s rfl (RVs.assign rfl rfl (fun _ => rfl) ?_)
  refine VC.nil (k2 ⟨15, [(6, _)]⟩ _ ?_)
  refine CWp.ret (q _ _ _ (.cons (.tmp rfl) .nil) ?_).1
  exact ⟨by simp [one], (List.prefix_refl H)⟩

theorem within (x a b : Int) (H : AH) : FWp Try.prog 91 [.int .i64 x, .int .i64 a, .int .i64 b] H (fun v' H' => v' = .bool (decide (a ≤ x ∧ x ≤ b)) ∧ H' = H) := by
  refine FWp.pure rfl fun H ph => ?_
  refine FWp.enterK Try.func91 rfl (by decide +kernel) rfl rfl fun Q q => ?_
  refine CWp.seqK fun Kk1 k1 => ?_
  refine CWp.regionW [0, 1, 2] ?_
  refine VC.s rfl (RVs.assign rfl rfl (fun _ => rfl) ?_)
  refine VC.nil (k1 ⟨15, [(0, _), (1, _), (2, _)]⟩ _ ?_)
  refine CWp.seqK fun Kk2 k2 => ?_
  refine CWp.regionW [6] ?_
  refine VC.s rfl (RVs.move rfl rfl (fun _ => rfl) ?_)
  refine VC.s rfl (RVs.move rfl rfl (fun _ => rfl) ?_)
  refine VC.s rfl (RVs.bin rfl rfl rfl rfl (fun _ => ⟨⟨rfl, rfl⟩, rfl⟩) ?_)
  refine VC.s rfl (RVs.move rfl rfl (fun _ => rfl) ?_)
  refine VC.s rfl (RVs.move rfl rfl (fun hg => (by first | rfl | exact hg | (simp_all [GF.cond, GF.conds, GF.get, GF.put, AF.toG]))) ?_)
  refine VC.s rfl (RVs.move rfl rfl (fun hg => (by first | rfl | exact hg | (simp_all [GF.cond, GF.conds, GF.get, GF.put, AF.toG]))) ?_)
  refine VC.s rfl (RVs.bin rfl rfl rfl rfl (fun hg => ⟨⟨(by first | rfl | exact hg | (simp_all [GF.cond, GF.conds, GF.get, GF.put, AF.toG])), (by first | rfl | exact hg | (simp_all [GF.cond, GF.conds, GF.get, GF.put, AF.toG]))⟩, rfl⟩) ?_)
  refine VC.s rfl (RVs.pick rfl rfl rfl rfl (fun hg => ⟨rfl, fun hh => by first | rfl | exact pk_t hh rfl | exact pk_t hh hg, fun hh => by first | rfl | exact pk_f hh rfl | exact pk_f hh hg⟩) ?_)
  refine VC.s rfl (RVs.assign rfl rfl (fun _ => rfl) ?_)
  refine VC.nil (k2 ⟨15, [(6, _)]⟩ _ ?_)
  refine CWp.ret (q _ _ _ (.cons (.tmp rfl) .nil) ?_).1
  exact ⟨by simp [one], (List.prefix_refl H)⟩

theorem sFlagsOk (x : Int) (H : AH) : FWp Try.prog 82 [.int .i64 x] H (fun v' H' => v' = .bool (decide (0 ≤ x ∧ x ≤ 31)) ∧ H' = H) := by
  refine FWp.pure rfl fun H ph => ?_
  refine FWp.enterK Try.func82 rfl (by decide +kernel) rfl rfl fun Q q => ?_
  refine CWp.seqK fun Kk1 k1 => ?_
  refine CWp.regionW [0] ?_
  refine VC.s rfl (RVs.assign rfl rfl (fun _ => rfl) ?_)
  refine VC.nil (k1 ⟨5, [(0, _)]⟩ _ ?_)
  refine CWp.seqK fun Kk2 k2 => ?_
  refine CWp.regionW [2] ?_
  refine VC.s rfl (RVs.move rfl rfl (fun _ => rfl) ?_)
  refine VC.s rfl (RVs.callp rfl rfl rfl (fun _ => ⟨⟨rfl, rfl⟩, l01In _ _ _ _⟩) ?_)
  refine VC.s rfl (RVs.assign rfl rfl (fun _ => rfl) ?_)
  refine VC.nil (k2 ⟨5, [(2, _)]⟩ _ ?_)
  refine CWp.ret (q _ _ _ (.cons (.tmp rfl) .nil) ?_).1
  exact ⟨rfl, (List.prefix_refl H)⟩

theorem iFlagsOk (x : Int) (H : AH) : FWp Try.prog 90 [.int .i64 x] H (fun v' H' => v' = .bool (decide (0 ≤ x ∧ x ≤ 31)) ∧ H' = H) := by
  refine FWp.pure rfl fun H ph => ?_
  refine FWp.enterK Try.func90 rfl (by decide +kernel) rfl rfl fun Q q => ?_
  refine CWp.seqK fun Kk1 k1 => ?_
  refine CWp.regionW [0] ?_
  refine VC.s rfl (RVs.assign rfl rfl (fun _ => rfl) ?_)
  refine VC.nil (k1 ⟨5, [(0, _)]⟩ _ ?_)
  refine CWp.seqK fun Kk2 k2 => ?_
  refine CWp.regionW [2] ?_
  refine VC.s rfl (RVs.move rfl rfl (fun _ => rfl) ?_)
  refine VC.s rfl (RVs.callp rfl rfl rfl (fun _ => ⟨⟨rfl, rfl⟩, within _ _ _ _⟩) ?_)
  refine VC.s rfl (RVs.assign rfl rfl (fun _ => rfl) ?_)
  refine VC.nil (k2 ⟨5, [(2, _)]⟩ _ ?_)
  refine CWp.ret (q _ _ _ (.cons (.tmp rfl) .nil) ?_).1
  exact ⟨rfl, (List.prefix_refl H)⟩

theorem isUid (x : Int) (H : AH) : FWp Try.prog 89 [.int .i64 x] H (fun v' H' => v' = .bool (decide (1 ≤ x ∧ x ≤ 9999)) ∧ H' = H) := by
  refine FWp.pure rfl fun H ph => ?_
  refine FWp.enterK Try.func89 rfl (by decide +kernel) rfl rfl fun Q q => ?_
  refine CWp.seqK fun Kk1 k1 => ?_
  refine CWp.regionW [0] ?_
  refine VC.s rfl (RVs.assign rfl rfl (fun _ => rfl) ?_)
  refine VC.nil (k1 ⟨5, [(0, _)]⟩ _ ?_)
  refine CWp.seqK fun Kk2 k2 => ?_
  refine CWp.regionW [2] ?_
  refine VC.s rfl (RVs.move rfl rfl (fun _ => rfl) ?_)
  refine VC.s rfl (RVs.callp rfl rfl rfl (fun _ => ⟨⟨rfl, rfl⟩, within _ _ _ _⟩) ?_)
  refine VC.s rfl (RVs.assign rfl rfl (fun _ => rfl) ?_)
  refine VC.nil (k2 ⟨5, [(2, _)]⟩ _ ?_)
  refine CWp.ret (q _ _ _ (.cons (.tmp rfl) .nil) ?_).1
  exact ⟨rfl, (List.prefix_refl H)⟩

theorem sBoxName (s : List UInt8) (H : AH) (hs : s.length ≤ lim) : FWp Try.prog 83 [.string (bs s)] H (fun v' H' => v' = .bool (boxName s) ∧ H' = H) := by
  refine FWp.pure rfl fun H ph => ?_
  refine FWp.enterK Try.func83 rfl (by decide +kernel) rfl rfl fun Q q => ?_
  refine CWp.seqK fun Kk1 k1 => ?_
  refine CWp.regionW [0] ?_
  refine VC.s rfl (RVs.assign rfl rfl (fun _ => rfl) ?_)
  refine VC.nil (k1 ⟨23, [(0, _)]⟩ _ ?_)
  refine CWp.seqK fun Kk2 k2 => ?_
  refine CWp.seqK fun Kk3 k3 => ?_
  refine CWp.regionW [0, 3] ?_
  refine VC.s rfl (RVs.assign rfl rfl (fun _ => rfl) ?_)
  refine VC.nil (k3 ⟨23, [(0, _), (3, _)]⟩ _ ?_)
  refine CWp.block ?_
  refine CWp.loopK (fun n T H' => ∃ i : Nat, T = ⟨23, [(0, .string (bs s)), (3, .int .i64 (i : Int))]⟩ ∧ n = s.length - i ∧ (i ≤ s.length) ∧ ((s.take i).all lower = true) ∧ H <+: H') (n := s.length) ⟨0, rfl, by first | rfl | simp, by omega, by simp, List.prefix_refl _⟩ ?_
  rintro n T Hl1 Kk4 k4 ⟨i, rfl, hn1, hi, ha, pl1⟩
  have p1 := (List.prefix_refl H).trans pl1
  refine CWp.seqK fun Kk5 k5 => ?_
  refine CWp.seqK fun Kk6 k6 => ?_
  refine CWp.regionW [0, 3, 7] ?_
  refine VC.s rfl (RVs.move rfl rfl (fun _ => rfl) ?_)
  refine VC.s rfl (RVs.move rfl rfl (fun _ => rfl) ?_)
  refine VC.s rfl (RVs.len_string rfl UnStr.h rfl (fun _ => rfl) ?_)
  refine VC.s rfl (RVs.bin rfl rfl rfl rfl (fun _ => ⟨⟨rfl, rfl⟩, rfl⟩) ?_)
  refine VC.nil (k6 ⟨23, [(0, _), (3, _), (7, _)]⟩ _ ?_)
  refine CWp.condV rfl (fun hc1 => ?_) (fun hc1 => ?_)
  · try simp at hc1
    refine CWp.skip ?_
    refine k5 _ _ ?_
    refine CWp.seqK fun Kk7 k7 => ?_
    refine CWp.block ?_
    refine CWp.seqK fun Kk8 k8 => ?_
    refine CWp.regionW [0, 3, 19] ?_
    refine VC.s rfl (RVs.move rfl rfl (fun _ => rfl) ?_)
    refine VC.s rfl (RVs.move rfl rfl (fun _ => rfl) ?_)
    refine VC.s rfl (RVs.index rfl rfl UnStr.h rfl (fun _ => ⟨⟨rfl, rfl⟩, by omega, by simp; omega⟩) ?_)
    refine VC.s rfl (RVs.bin rfl rfl rfl rfl (fun _ => ⟨⟨rfl, rfl⟩, rfl⟩) ?_)
    refine VC.s rfl (RVs.move rfl rfl (fun _ => rfl) ?_)
    refine VC.s rfl (RVs.move rfl rfl (fun hg => (by first | rfl | exact hg | (simp_all [GF.cond, GF.conds, GF.get, GF.put, AF.toG]))) ?_)
    refine VC.s rfl (RVs.move rfl rfl (fun hg => (by first | rfl | exact hg | (simp_all [GF.cond, GF.conds, GF.get, GF.put, AF.toG]))) ?_)
    refine VC.s rfl (RVs.index rfl rfl UnStr.h rfl (fun hg => ⟨⟨(by first | rfl | exact hg | (simp_all [GF.cond, GF.conds, GF.get, GF.put, AF.toG])), (by first | rfl | exact hg | (simp_all [GF.cond, GF.conds, GF.get, GF.put, AF.toG]))⟩, by omega, by simp; omega⟩) ?_)
    refine VC.s rfl (RVs.bin rfl rfl rfl rfl (fun hg => ⟨⟨(by first | rfl | exact hg | (simp_all [GF.cond, GF.conds, GF.get, GF.put, AF.toG])), (by first | rfl | exact hg | (simp_all [GF.cond, GF.conds, GF.get, GF.put, AF.toG]))⟩, rfl⟩) ?_)
    refine VC.s rfl (RVs.pick rfl rfl rfl rfl (fun hg => ⟨rfl, fun hh => by first | rfl | exact pk_t hh rfl | exact pk_t hh hg, fun hh => by first | rfl | exact pk_f hh rfl | exact pk_f hh hg⟩) ?_)
    refine VC.nil (k8 ⟨23, [(0, _), (3, _), (19, _)]⟩ _ ?_)
    refine CWp.condV rfl (fun hc2 => ?_) (fun hc2 => ?_)
    · simp [byteAt_bs hc1] at hc2
      refine CWp.seqK fun Kk9 k9 => ?_
      refine CWp.regionW [2] ?_
      refine VC.s rfl (RVs.assign rfl rfl (fun _ => rfl) ?_)
      refine VC.nil (k9 ⟨23, [(2, _)]⟩ _ ?_)
      refine CWp.ret (q _ _ _ (.cons (.tmp rfl) .nil) ?_).1
      exact ⟨by simp [one, bn_bad hc1 (show ¬ (97 ≤ s[i].toNat ∧ s[i].toNat ≤ 122) by omega)], p1⟩
    · simp [byteAt_bs hc1] at hc2
      refine CWp.skip ?_
      refine k7 _ _ ?_
      refine CWp.regionW [0, 3] ?_
      refine VC.s rfl (RVs.move rfl rfl (fun _ => rfl) ?_)
      refine VC.s rfl (RVs.bin rfl rfl rfl rfl (fun _ => ⟨⟨rfl, rfl⟩, rfl⟩) ?_)
      refine VC.s rfl (RVs.assign rfl rfl (fun _ => rfl) ?_)
      rw [wrap_succ (n := s.length) (by omega) hs]
      refine VC.nil (k4 _ ⟨23, [(0, _), (3, _)]⟩ _ ?_ ⟨i + 1, rfl, rfl, by omega, bn_step ha hc1 (by omega), pl1.trans (List.prefix_refl Hl1)⟩)
      omega
  · try simp at hc1
    refine CWp.exit ?_
    refine k2 _ _ ?_
    refine CWp.seqK fun Kk10 k10 => ?_
    refine CWp.regionW [2] ?_
    refine VC.s rfl (RVs.move rfl rfl (fun _ => rfl) ?_)
    refine VC.s rfl (RVs.len_string rfl UnStr.h rfl (fun _ => rfl) ?_)
    refine VC.s rfl (RVs.callp rfl rfl rfl (fun _ => ⟨⟨rfl, rfl⟩, l01In _ _ _ _⟩) ?_)
    refine VC.s rfl (RVs.assign rfl rfl (fun _ => rfl) ?_)
    refine VC.nil (k10 ⟨23, [(2, _)]⟩ _ ?_)
    refine CWp.ret (q _ _ _ (.cons (.tmp rfl) .nil) ?_).1
    exact ⟨by simp only [one, bl_bs]; rw [bn_end ha (by omega)]; exact congrArg Value.bool (decide_eq_decide.2 (by omega)), p1⟩

theorem iBoxName (s : List UInt8) (H : AH) (hs : s.length ≤ lim) : FWp Try.prog 92 [.string (bs s)] H (fun v' H' => v' = .bool (boxName s) ∧ H' = H) := by
  refine FWp.pure rfl fun H ph => ?_
  refine FWp.enterK Try.func92 rfl (by decide +kernel) rfl rfl fun Q q => ?_
  refine CWp.seqK fun Kk1 k1 => ?_
  refine CWp.regionW [0] ?_
  refine VC.s rfl (RVs.assign rfl rfl (fun _ => rfl) ?_)
  refine VC.nil (k1 ⟨19, [(0, _)]⟩ _ ?_)
  refine CWp.seqK fun Kk2 k2 => ?_
  refine CWp.seqK fun Kk3 k3 => ?_
  refine CWp.regionW [0, 5, 6] ?_
  refine VC.s rfl (RVs.move rfl rfl (fun _ => rfl) ?_)
  refine VC.s rfl (RVs.len_string rfl UnStr.h rfl (fun _ => rfl) ?_)
  refine VC.s rfl (RVs.move rfl rfl (fun _ => rfl) ?_)
  refine VC.nil (k3 ⟨19, [(0, _), (5, _), (6, _)]⟩ _ ?_)
  refine CWp.block ?_
  refine CWp.loopK (fun n T H' => ∃ i : Nat, T = ⟨19, [(0, .string (bs s)), (5, .int .i64 (s.length : Int)), (6, .int .i64 (i : Int))]⟩ ∧ n = s.length - i ∧ (i ≤ s.length) ∧ ((s.take i).all lower = true) ∧ H <+: H') (n := s.length) ⟨0, by simp, by first | rfl | simp, by omega, by simp, List.prefix_refl _⟩ ?_
  rintro n T Hl1 Kk4 k4 ⟨i, rfl, hn1, hi, ha, pl1⟩
  have p1 := (List.prefix_refl H).trans pl1
  refine CWp.seqK fun Kk5 k5 => ?_
  refine CWp.regionW [0, 5, 6, 7] ?_
  refine VC.s rfl (RVs.bin rfl rfl rfl rfl (fun _ => ⟨⟨rfl, rfl⟩, rfl⟩) ?_)
  refine VC.nil (k5 ⟨19, [(0, _), (5, _), (6, _), (7, _)]⟩ _ ?_)
  refine CWp.seqK fun Kk6 k6 => ?_
  refine CWp.condV rfl (fun hc1 => ?_) (fun hc1 => ?_)
  · try simp at hc1
    refine CWp.skip ?_
    refine k6 _ _ ?_
    refine CWp.seqK fun Kk7 k7 => ?_
    refine CWp.block ?_
    refine CWp.seqK fun Kk8 k8 => ?_
    refine CWp.regionW [0, 3, 5, 6] ?_
    refine VC.s rfl (RVs.move rfl rfl (fun _ => rfl) ?_)
    refine VC.s rfl (RVs.assign rfl rfl (fun _ => rfl) ?_)
    refine VC.nil (k8 ⟨19, [(0, _), (3, _), (5, _), (6, _)]⟩ _ ?_)
    refine CWp.seqK fun Kk9 k9 => ?_
    refine CWp.regionW [0, 5, 6, 14] ?_
    refine VC.s rfl (RVs.move rfl rfl (fun _ => rfl) ?_)
    refine VC.s rfl (RVs.move rfl rfl (fun _ => rfl) ?_)
    refine VC.s rfl (RVs.index rfl rfl UnStr.h rfl (fun _ => ⟨⟨rfl, rfl⟩, by omega, by simp; omega⟩) ?_)
    refine VC.s rfl (RVs.conv_int rfl UnInt.h UnInt.h rfl (fun _ => rfl) ?_)
    refine VC.s rfl (RVs.callp rfl rfl rfl (fun _ => ⟨⟨rfl, rfl⟩, within _ _ _ _⟩) ?_)
    refine VC.s rfl (RVs.not rfl rfl (fun _ => rfl) ?_)
    refine VC.nil (k9 ⟨19, [(0, _), (5, _), (6, _), (14, _)]⟩ _ ?_)
    refine CWp.condV rfl (fun hc2 => ?_) (fun hc2 => ?_)
    · simp [byteAt_bs hc1] at hc2
      have hlt := UInt8.toNat_lt s[i]
      rw [wrap_in (by omega)] at hc2
      refine CWp.seqK fun Kk10 k10 => ?_
      refine CWp.regionW [2] ?_
      refine VC.s rfl (RVs.assign rfl rfl (fun _ => rfl) ?_)
      refine VC.nil (k10 ⟨19, [(2, _)]⟩ _ ?_)
      refine CWp.ret (q _ _ _ (.cons (.tmp rfl) .nil) ?_).1
      exact ⟨by simp [one, bn_bad hc1 (show ¬ (97 ≤ s[i].toNat ∧ s[i].toNat ≤ 122) by omega)], p1⟩
    · simp [byteAt_bs hc1] at hc2
      have hlt := UInt8.toNat_lt s[i]
      rw [wrap_in (by omega)] at hc2
      refine CWp.skip ?_
      refine k7 _ _ ?_
      refine CWp.regionW [0, 5, 6] ?_
      refine VC.s rfl (RVs.bin rfl rfl rfl rfl (fun _ => ⟨⟨rfl, rfl⟩, rfl⟩) ?_)
      refine VC.s rfl (RVs.move rfl rfl (fun _ => rfl) ?_)
      rw [wrap_succ (n := s.length) (by omega) hs]
      refine VC.nil (k4 _ ⟨19, [(0, _), (5, _), (6, _)]⟩ _ ?_ ⟨i + 1, rfl, rfl, by omega, bn_step ha hc1 (by omega), pl1.trans (List.prefix_refl Hl1)⟩)
      omega
  · try simp at hc1
    refine CWp.exit ?_
    refine k2 _ _ ?_
    refine CWp.seqK fun Kk11 k11 => ?_
    refine CWp.regionW [2] ?_
    refine VC.s rfl (RVs.move rfl rfl (fun _ => rfl) ?_)
    refine VC.s rfl (RVs.len_string rfl UnStr.h rfl (fun _ => rfl) ?_)
    refine VC.s rfl (RVs.callp rfl rfl rfl (fun _ => ⟨⟨rfl, rfl⟩, within _ _ _ _⟩) ?_)
    refine VC.s rfl (RVs.assign rfl rfl (fun _ => rfl) ?_)
    refine VC.nil (k11 ⟨19, [(2, _)]⟩ _ ?_)
    refine CWp.ret (q _ _ _ (.cons (.tmp rfl) .nil) ?_).1
    exact ⟨by simp only [one, bl_bs]; rw [bn_end ha (by omega)]; exact congrArg Value.bool (decide_eq_decide.2 (by omega)), p1⟩

theorem szMail (x : Mail) (left : Int) (H : AH) (h0 : 0 ≤ left) (h1 : left ≤ 1048576) (hb : x.text.length ≤ lim) : FWp Try.prog 94 [.agg #[.int .i64 x.uid, .int .i64 x.flags, .int .i64 x.mod, .string (bs x.text)], .int .i64 left] H (fun v' H' => v' = .int .i64 (szMailL x left) ∧ H' = H) := by
  refine FWp.pure rfl fun H ph => ?_
  unfold lim at hb
  refine FWp.enterK Try.func94 rfl (by decide +kernel) rfl rfl fun Q q => ?_
  have hs0 := Sep.nil (H := H)
  refine CWp.seqK fun Kk1 k1 => ?_
  refine CWp.regionW [1, 2] ?_
  refine VC.s rfl (RVs.box rfl TyOf.h rfl rfl rfl ?_)
  intro b1 H1 g1 l1 a1
  have hs1 := Sep.addB hs0 g1 l1 a1
  refine VC.s rfl (RVs.assign rfl rfl (fun _ => rfl) ?_)
  refine VC.nil (k1 ⟨13, [(1, _), (2, _)]⟩ _ ?_)
  refine CWp.seqK fun Kk2 k2 => ?_
  refine CWp.regionW [1] ?_
  refine VC.s rfl (RVs.move rfl rfl (fun _ => rfl) ?_)
  refine VC.s rfl (RVs.fieldAddr rfl FieldOf.h (by decide) rfl (fun _ => rfl) ?_)
  refine VC.s rfl (RVs.load rfl TyOf.h rfl (fun _ => ⟨rfl, (Sep.at_ (i := 0) hs1 rfl), rw_live, rfl⟩) ?_)
  refine VC.s rfl (RVs.len_string rfl UnStr.h rfl (fun _ => rfl) ?_)
  refine VC.s rfl (RVs.arith (r := (left - x.text.length)) rfl rfl rfl (by (try simp only [bl_bs]); first | exact wrap_in (by omega) | (rw [wrap_in (by omega)]; omega)) rfl (fun _ => ⟨⟨rfl, rfl⟩, rfl⟩) ?_)
  refine VC.s rfl (RVs.assign rfl rfl (fun _ => rfl) ?_)
  refine VC.nil (k2 ⟨13, [(1, _)]⟩ _ ?_)
  refine CWp.seqK fun Kk3 k3 => ?_
  refine CWp.seqK fun Kk4 k4 => ?_
  refine CWp.regionW [1, 11] ?_
  refine VC.s rfl (RVs.move rfl rfl (fun _ => rfl) ?_)
  refine VC.s rfl (RVs.bin rfl rfl rfl rfl (fun _ => ⟨⟨rfl, rfl⟩, rfl⟩) ?_)
  refine VC.nil (k4 ⟨13, [(1, _), (11, _)]⟩ _ ?_)
  refine CWp.condV rfl (fun hc1 => ?_) (fun hc1 => ?_)
  · try simp at hc1
    refine CWp.seqK fun Kk5 k5 => ?_
    refine CWp.regionW [4] ?_
    refine VC.s rfl (RVs.assign rfl rfl (fun _ => rfl) ?_)
    refine VC.nil (k5 ⟨13, [(4, _)]⟩ _ ?_)
    refine CWp.ret (q _ _ _ (.cons (.tmp rfl) .nil) ?_).1
    exact ⟨by simp [one, szMailL, szl, hc1], (hs1.pre)⟩
  · try simp at hc1
    refine CWp.skip ?_
    refine k3 _ _ ?_
    refine CWp.seqK fun Kk6 k6 => ?_
    refine CWp.regionW [4] ?_
    refine VC.s rfl (RVs.move rfl rfl (fun _ => rfl) ?_)
    refine VC.s rfl (RVs.assign rfl rfl (fun _ => rfl) ?_)
    refine VC.nil (k6 ⟨13, [(4, _)]⟩ _ ?_)
    refine CWp.ret (q _ _ _ (.cons (.tmp rfl) .nil) ?_).1
    exact ⟨by simp only [one, szMailL, szl]; rw [if_neg (by omega)], (hs1.pre)⟩

theorem szMailS (va : Value) (xs : List Mail) (left : Int) (H : AH) (hS : kMail.S H va xs) (h0 : 0 ≤ left) (h1 : left ≤ 1048576) : FWp Try.prog 51 [va, .int .i64 left] H (fun v' H' => v' = .int .i64 (szS szMailL xs left) ∧ H' = H) := by
  refine FWp.pure rfl fun H ph => ?_
  replace hS := hS.mono (hle ph)
  have hSl := hS.lim
  unfold lim at hSl
  obtain ⟨aa, ca, rfl, hSc⟩ := hS.form
  refine FWp.enterK Try.func51 rfl (by decide +kernel) rfl rfl fun Q q => ?_
  have hs0 := Sep.nil (H := H)
  refine CWp.seqK fun Kk1 k1 => ?_
  refine CWp.regionW [0, 1] ?_
  refine VC.s rfl (RVs.assign rfl rfl (fun _ => rfl) ?_)
  refine VC.nil (k1 ⟨27, [(0, _), (1, _)]⟩ _ ?_)
  refine CWp.seqK fun Kk2 k2 => ?_
  refine CWp.regionW [0, 1] ?_
  refine VC.s rfl (RVs.move rfl rfl (fun _ => rfl) ?_)
  refine VC.s rfl (RVs.move rfl rfl (fun _ => rfl) ?_)
  refine VC.s rfl (RVs.len_slice rfl UnSl.h rfl (fun _ => rfl) ?_)
  refine VC.s rfl (RVs.arith (r := (left - xs.length)) rfl rfl rfl (by (try simp only [bl_bs]); first | exact wrap_in (by omega) | (rw [wrap_in (by omega)]; omega)) rfl (fun _ => ⟨⟨rfl, rfl⟩, rfl⟩) ?_)
  refine VC.s rfl (RVs.assign rfl rfl (fun _ => rfl) ?_)
  refine VC.nil (k2 ⟨27, [(0, _), (1, _)]⟩ _ ?_)
  refine CWp.seqK fun Kk3 k3 => ?_
  refine CWp.seqK fun Kk4 k4 => ?_
  refine CWp.regionW [0, 1, 11] ?_
  refine VC.s rfl (RVs.move rfl rfl (fun _ => rfl) ?_)
  refine VC.s rfl (RVs.bin rfl rfl rfl rfl (fun _ => ⟨⟨rfl, rfl⟩, rfl⟩) ?_)
  refine VC.nil (k4 ⟨27, [(0, _), (1, _), (11, _)]⟩ _ ?_)
  refine CWp.condV rfl (fun hc1 => ?_) (fun hc1 => ?_)
  · try simp at hc1
    refine CWp.seqK fun Kk5 k5 => ?_
    refine CWp.regionW [4] ?_
    refine VC.s rfl (RVs.assign rfl rfl (fun _ => rfl) ?_)
    refine VC.nil (k5 ⟨27, [(4, _)]⟩ _ ?_)
    refine CWp.ret (q _ _ _ (.cons (.tmp rfl) .nil) ?_).1
    exact ⟨by simp [one, szS, hc1], (hs0.pre)⟩
  · try simp at hc1
    refine CWp.skip ?_
    refine k3 _ _ ?_
    refine CWp.seqK fun Kk6 k6 => ?_
    refine CWp.seqK fun Kk7 k7 => ?_
    refine CWp.regionW [0, 1, 5] ?_
    refine VC.s rfl (RVs.assign rfl rfl (fun _ => rfl) ?_)
    refine VC.nil (k7 ⟨27, [(0, _), (1, _), (5, _)]⟩ _ ?_)
    refine CWp.block ?_
    refine CWp.loopK (fun n T H' => ∃ (i : Nat) (l : Int), T = ⟨27, [(0, .slice aa xs.length ca), (1, .int .i64 l), (5, .int .i64 (i : Int))]⟩ ∧ n = xs.length - i ∧ (i ≤ xs.length) ∧ (0 ≤ l ∧ l ≤ 1048576) ∧ (szs szMailL xs (left - xs.length) = szs szMailL (xs.drop i) l) ∧ H <+: H') (n := xs.length) ⟨0, left - xs.length, rfl, by first | rfl | simp, by omega, by omega, by simp, List.prefix_refl _⟩ ?_
    rintro n T Hl1 Kk8 k8 ⟨i, l, rfl, hn1, hi, hl, hz, hs1⟩
    have hs2 := Sep.grow hs0 hs1
    have hs3 := Sep.nil (H := Hl1)
    refine CWp.seqK fun Kk9 k9 => ?_
    refine CWp.seqK fun Kk10 k10 => ?_
    refine CWp.regionW [0, 1, 5, 15] ?_
    refine VC.s rfl (RVs.move rfl rfl (fun _ => rfl) ?_)
    refine VC.s rfl (RVs.move rfl rfl (fun _ => rfl) ?_)
    refine VC.s rfl (RVs.len_slice rfl UnSl.h rfl (fun _ => rfl) ?_)
    refine VC.s rfl (RVs.bin rfl rfl rfl rfl (fun _ => ⟨⟨rfl, rfl⟩, rfl⟩) ?_)
    refine VC.nil (k10 ⟨27, [(0, _), (1, _), (5, _), (15, _)]⟩ _ ?_)
    refine CWp.condV rfl (fun hc2 => ?_) (fun hc2 => ?_)
    · try simp at hc2
      refine CWp.skip ?_
      refine k9 _ _ ?_
      refine CWp.seqK fun Kk11 k11 => ?_
      refine CWp.block ?_
      refine CWp.seqK fun Kk12 k12 => ?_
      refine CWp.regionW [0, 1, 5] ?_
      refine VC.s rfl (RVs.move rfl rfl (fun _ => rfl) ?_)
      refine VC.s rfl (RVs.move rfl rfl (fun _ => rfl) ?_)
      refine VC.s rfl (RVs.indexS rfl (hS.mono (hle (List.IsPrefix.trans hs2.pre (hs3.pre)))) rfl ElemOf.h rfl (fun _ => ⟨⟨rfl, rfl⟩, by omega, by omega⟩) ?_)
      intro id1 j1 u1 B1 e1
      obtain ⟨y1, hy1, e1⟩ := e1 rfl
      try simp only [Int.toNat_natCast] at hy1
      obtain ⟨rfl, hwy1⟩ := e1.r
      refine VC.s rfl (RVs.loadE (k := kMail) rfl TyOf.h rfl (fun _ => ⟨rfl, e1⟩) ?_)
      refine VC.s rfl (RVs.move rfl rfl (fun _ => rfl) ?_)
      refine VC.s rfl (RVs.callp rfl rfl rfl (fun _ => ⟨⟨rfl, rfl⟩, szMail _ _ _ (by omega) (by omega) hwy1⟩) ?_)
      refine VC.s rfl (RVs.assign rfl rfl (fun _ => rfl) ?_)
      refine VC.nil (k12 ⟨27, [(0, _), (1, _), (5, _)]⟩ _ ?_)
      refine CWp.seqK fun Kk13 k13 => ?_
      refine CWp.regionW [0, 1, 5, 25] ?_
      refine VC.s rfl (RVs.move rfl rfl (fun _ => rfl) ?_)
      refine VC.s rfl (RVs.bin rfl rfl rfl rfl (fun _ => ⟨⟨rfl, rfl⟩, rfl⟩) ?_)
      refine VC.nil (k13 ⟨27, [(0, _), (1, _), (5, _), (25, _)]⟩ _ ?_)
      refine CWp.condV rfl (fun hc3 => ?_) (fun hc3 => ?_)
      · try simp at hc3
        refine CWp.seqK fun Kk14 k14 => ?_
        refine CWp.regionW [4] ?_
        refine VC.s rfl (RVs.assign rfl rfl (fun _ => rfl) ?_)
        refine VC.nil (k14 ⟨27, [(4, _)]⟩ _ ?_)
        refine CWp.ret (q _ _ _ (.cons (.tmp rfl) .nil) ?_).1
        exact ⟨by simp only [one, szS]; rw [if_neg (by omega), hz, szs_bad hy1 (by simpa using hc3)], (List.IsPrefix.trans hs2.pre (hs3.pre))⟩
      · try simp at hc3
        refine CWp.skip ?_
        refine k11 _ _ ?_
        refine CWp.regionW [0, 1, 5] ?_
        refine VC.s rfl (RVs.move rfl rfl (fun _ => rfl) ?_)
        refine VC.s rfl (RVs.arith (r := ((i + 1 : Nat) : Int)) rfl rfl rfl (by (try simp only [bl_bs]); first | exact wrap_in (by omega) | (rw [wrap_in (by omega)]; omega)) rfl (fun _ => ⟨⟨rfl, rfl⟩, rfl⟩) ?_)
        refine VC.s rfl (RVs.assign rfl rfl (fun _ => rfl) ?_)
        refine VC.nil (k8 _ ⟨27, [(0, _), (1, _), (5, _)]⟩ _ ?_ ⟨i + 1, _, rfl, rfl, by omega, by have := szMailL_le y1 l hl.1; omega, by rw [hz, szs_step hy1 (by simpa using hc3)], List.IsPrefix.trans hs1 hs3.pre⟩)
        omega
    · try simp at hc2
      refine CWp.exit ?_
      refine k6 _ _ ?_
      refine CWp.seqK fun Kk15 k15 => ?_
      refine CWp.regionW [4] ?_
      refine VC.s rfl (RVs.move rfl rfl (fun _ => rfl) ?_)
      refine VC.s rfl (RVs.assign rfl rfl (fun _ => rfl) ?_)
      refine VC.nil (k15 ⟨27, [(4, _)]⟩ _ ?_)
      refine CWp.ret (q _ _ _ (.cons (.tmp rfl) .nil) ?_).1
      exact ⟨by simp only [one, szS]; rw [if_neg (by omega), hz, szs_end (by omega)], (List.IsPrefix.trans hs2.pre (hs3.pre))⟩

theorem szTombS (va : Value) (xs : List Tomb) (left : Int) (H : AH) (hS : kTomb.S H va xs) (h0 : 0 ≤ left) (h1 : left ≤ 1048576) : FWp Try.prog 52 [va, .int .i64 left] H (fun v' H' => v' = .int .i64 (szl xs.length left) ∧ H' = H) := by
  refine FWp.pure rfl fun H ph => ?_
  replace hS := hS.mono (hle ph)
  have hSl := hS.lim
  unfold lim at hSl
  obtain ⟨aa, ca, rfl, hSc⟩ := hS.form
  refine FWp.enterK Try.func52 rfl (by decide +kernel) rfl rfl fun Q q => ?_
  have hs0 := Sep.nil (H := H)
  refine CWp.seqK fun Kk1 k1 => ?_
  refine CWp.regionW [0, 1] ?_
  refine VC.s rfl (RVs.assign rfl rfl (fun _ => rfl) ?_)
  refine VC.nil (k1 ⟨12, [(0, _), (1, _)]⟩ _ ?_)
  refine CWp.seqK fun Kk2 k2 => ?_
  refine CWp.regionW [1] ?_
  refine VC.s rfl (RVs.move rfl rfl (fun _ => rfl) ?_)
  refine VC.s rfl (RVs.move rfl rfl (fun _ => rfl) ?_)
  refine VC.s rfl (RVs.len_slice rfl UnSl.h rfl (fun _ => rfl) ?_)
  refine VC.s rfl (RVs.arith (r := (left - xs.length)) rfl rfl rfl (by (try simp only [bl_bs]); first | exact wrap_in (by omega) | (rw [wrap_in (by omega)]; omega)) rfl (fun _ => ⟨⟨rfl, rfl⟩, rfl⟩) ?_)
  refine VC.s rfl (RVs.assign rfl rfl (fun _ => rfl) ?_)
  refine VC.nil (k2 ⟨12, [(1, _)]⟩ _ ?_)
  refine CWp.seqK fun Kk3 k3 => ?_
  refine CWp.seqK fun Kk4 k4 => ?_
  refine CWp.regionW [1, 10] ?_
  refine VC.s rfl (RVs.move rfl rfl (fun _ => rfl) ?_)
  refine VC.s rfl (RVs.bin rfl rfl rfl rfl (fun _ => ⟨⟨rfl, rfl⟩, rfl⟩) ?_)
  refine VC.nil (k4 ⟨12, [(1, _), (10, _)]⟩ _ ?_)
  refine CWp.condV rfl (fun hc1 => ?_) (fun hc1 => ?_)
  · try simp at hc1
    refine CWp.seqK fun Kk5 k5 => ?_
    refine CWp.regionW [4] ?_
    refine VC.s rfl (RVs.assign rfl rfl (fun _ => rfl) ?_)
    refine VC.nil (k5 ⟨12, [(4, _)]⟩ _ ?_)
    refine CWp.ret (q _ _ _ (.cons (.tmp rfl) .nil) ?_).1
    exact ⟨by simp [one, szl, hc1], (hs0.pre)⟩
  · try simp at hc1
    refine CWp.skip ?_
    refine k3 _ _ ?_
    refine CWp.seqK fun Kk6 k6 => ?_
    refine CWp.regionW [4] ?_
    refine VC.s rfl (RVs.move rfl rfl (fun _ => rfl) ?_)
    refine VC.s rfl (RVs.assign rfl rfl (fun _ => rfl) ?_)
    refine VC.nil (k6 ⟨12, [(4, _)]⟩ _ ?_)
    refine CWp.ret (q _ _ _ (.cons (.tmp rfl) .nil) ?_).1
    exact ⟨by simp only [one, szl]; rw [if_neg (by omega)], (hs0.pre)⟩

theorem szBox (x : Box) (x_mails x_tombs : Value) (left : Int) (H : AH) (hS_x_mails : kMail.S H x_mails x.mails) (hS_x_tombs : kTomb.S H x_tombs x.tombs) (hb_x_name : x.name.length ≤ lim) (h0 : 0 ≤ left) (h1 : left ≤ 1048576) : FWp Try.prog 18 [.agg #[.string (bs x.name), .int .i64 x.valid, .int .i64 x.next, .int .i64 x.mod, x_mails, x_tombs, .int .i64 x.horizon], .int .i64 left] H (fun v' H' => v' = .int .i64 (szBoxL x left) ∧ H' = H) := by
  refine FWp.pure rfl fun H ph => ?_
  replace hS_x_mails := hS_x_mails.mono (hle ph)
  replace hS_x_tombs := hS_x_tombs.mono (hle ph)
  unfold lim at hb_x_name
  refine FWp.enterK Try.func18 rfl (by decide +kernel) rfl rfl fun Q q => ?_
  have hs0 := Sep.nil (H := H)
  refine CWp.seqK fun Kk1 k1 => ?_
  refine CWp.regionW [1, 2] ?_
  refine VC.s rfl (RVs.box rfl TyOf.h rfl rfl rfl ?_)
  intro b1 H1 g1 l1 a1
  have hs1 := Sep.addB hs0 g1 l1 a1
  refine VC.s rfl (RVs.assign rfl rfl (fun _ => rfl) ?_)
  refine VC.nil (k1 ⟨25, [(1, _), (2, _)]⟩ _ ?_)
  refine CWp.seqK fun Kk2 k2 => ?_
  refine CWp.regionW [1, 2] ?_
  refine VC.s rfl (RVs.move rfl rfl (fun _ => rfl) ?_)
  refine VC.s rfl (RVs.fieldAddr rfl FieldOf.h (by decide) rfl (fun _ => rfl) ?_)
  refine VC.s rfl (RVs.load rfl TyOf.h rfl (fun _ => ⟨rfl, (Sep.at_ (i := 0) hs1 rfl), rw_live, rfl⟩) ?_)
  refine VC.s rfl (RVs.len_string rfl UnStr.h rfl (fun _ => rfl) ?_)
  refine VC.s rfl (RVs.arith (r := (left - x.name.length)) rfl rfl rfl (by (try simp only [bl_bs]); first | exact wrap_in (by omega) | (rw [wrap_in (by omega)]; omega)) rfl (fun _ => ⟨⟨rfl, rfl⟩, rfl⟩) ?_)
  refine VC.s rfl (RVs.assign rfl rfl (fun _ => rfl) ?_)
  refine VC.nil (k2 ⟨25, [(1, _), (2, _)]⟩ _ ?_)
  refine CWp.seqK fun Kk3 k3 => ?_
  refine CWp.seqK fun Kk4 k4 => ?_
  refine CWp.regionW [1, 2, 11] ?_
  refine VC.s rfl (RVs.move rfl rfl (fun _ => rfl) ?_)
  refine VC.s rfl (RVs.bin rfl rfl rfl rfl (fun _ => ⟨⟨rfl, rfl⟩, rfl⟩) ?_)
  refine VC.nil (k4 ⟨25, [(1, _), (2, _), (11, _)]⟩ _ ?_)
  refine CWp.condV rfl (fun hc1 => ?_) (fun hc1 => ?_)
  · try simp at hc1
    refine CWp.seqK fun Kk5 k5 => ?_
    refine CWp.regionW [4] ?_
    refine VC.s rfl (RVs.assign rfl rfl (fun _ => rfl) ?_)
    refine VC.nil (k5 ⟨25, [(4, _)]⟩ _ ?_)
    refine CWp.ret (q _ _ _ (.cons (.tmp rfl) .nil) ?_).1
    exact ⟨by simp [one, szBoxL, hc1], (hs1.pre)⟩
  · try simp at hc1
    refine CWp.skip ?_
    refine k3 _ _ ?_
    refine CWp.seqK fun Kk6 k6 => ?_
    refine CWp.regionW [1, 2] ?_
    refine VC.s rfl (RVs.fieldAddr rfl FieldOf.h (by decide) rfl (fun _ => rfl) ?_)
    refine VC.s rfl (RVs.load rfl TyOf.h rfl (fun _ => ⟨rfl, (Sep.at_ (i := 0) hs1 rfl), rw_live, rfl⟩) ?_)
    refine VC.s rfl (RVs.move rfl rfl (fun _ => rfl) ?_)
    refine VC.s rfl (RVs.callp rfl rfl rfl (fun _ => ⟨⟨rfl, rfl⟩, szMailS _ _ _ _ (hS_x_mails.mono (hle (hs1.pre))) (by omega) (by omega)⟩) ?_)
    refine VC.s rfl (RVs.assign rfl rfl (fun _ => rfl) ?_)
    refine VC.nil (k6 ⟨25, [(1, _), (2, _)]⟩ _ ?_)
    refine CWp.seqK fun Kk7 k7 => ?_
    refine CWp.seqK fun Kk8 k8 => ?_
    refine CWp.regionW [1, 2, 17] ?_
    refine VC.s rfl (RVs.move rfl rfl (fun _ => rfl) ?_)
    refine VC.s rfl (RVs.bin rfl rfl rfl rfl (fun _ => ⟨⟨rfl, rfl⟩, rfl⟩) ?_)
    refine VC.nil (k8 ⟨25, [(1, _), (2, _), (17, _)]⟩ _ ?_)
    refine CWp.condV rfl (fun hc2 => ?_) (fun hc2 => ?_)
    · try simp at hc2
      refine CWp.seqK fun Kk9 k9 => ?_
      refine CWp.regionW [4] ?_
      refine VC.s rfl (RVs.assign rfl rfl (fun _ => rfl) ?_)
      refine VC.nil (k9 ⟨25, [(4, _)]⟩ _ ?_)
      refine CWp.ret (q _ _ _ (.cons (.tmp rfl) .nil) ?_).1
      exact ⟨by simp only [one, szBoxL]; rw [if_neg (by omega), if_pos (by simpa using hc2)], (hs1.pre)⟩
    · try simp at hc2
      refine CWp.skip ?_
      refine k7 _ _ ?_
      refine CWp.seqK fun Kk10 k10 => ?_
      refine CWp.regionW [1] ?_
      refine VC.s rfl (RVs.fieldAddr rfl FieldOf.h (by decide) rfl (fun _ => rfl) ?_)
      refine VC.s rfl (RVs.load rfl TyOf.h rfl (fun _ => ⟨rfl, (Sep.at_ (i := 0) hs1 rfl), rw_live, rfl⟩) ?_)
      refine VC.s rfl (RVs.move rfl rfl (fun _ => rfl) ?_)
      have hsm := (szS_all szMailL_le (by simpa using hc2)).2.1
      refine VC.s rfl (RVs.callp rfl rfl rfl (fun _ => ⟨⟨rfl, rfl⟩, szTombS _ _ _ _ (hS_x_tombs.mono (hle (hs1.pre))) (by omega) (by omega)⟩) ?_)
      refine VC.s rfl (RVs.assign rfl rfl (fun _ => rfl) ?_)
      refine VC.nil (k10 ⟨25, [(1, _)]⟩ _ ?_)
      refine CWp.seqK fun Kk11 k11 => ?_
      refine CWp.seqK fun Kk12 k12 => ?_
      refine CWp.regionW [1, 23] ?_
      refine VC.s rfl (RVs.move rfl rfl (fun _ => rfl) ?_)
      refine VC.s rfl (RVs.bin rfl rfl rfl rfl (fun _ => ⟨⟨rfl, rfl⟩, rfl⟩) ?_)
      refine VC.nil (k12 ⟨25, [(1, _), (23, _)]⟩ _ ?_)
      refine CWp.condV rfl (fun hc3 => ?_) (fun hc3 => ?_)
      · try simp at hc3
        refine CWp.seqK fun Kk13 k13 => ?_
        refine CWp.regionW [4] ?_
        refine VC.s rfl (RVs.assign rfl rfl (fun _ => rfl) ?_)
        refine VC.nil (k13 ⟨25, [(4, _)]⟩ _ ?_)
        refine CWp.ret (q _ _ _ (.cons (.tmp rfl) .nil) ?_).1
        exact ⟨by simp only [one, szBoxL]; rw [if_neg (by omega), if_neg (by simpa using hc2)]; unfold szl at *; split at hc3 <;> simp_all, (hs1.pre)⟩
      · try simp at hc3
        refine CWp.skip ?_
        refine k11 _ _ ?_
        refine CWp.seqK fun Kk14 k14 => ?_
        refine CWp.regionW [4] ?_
        refine VC.s rfl (RVs.move rfl rfl (fun _ => rfl) ?_)
        refine VC.s rfl (RVs.assign rfl rfl (fun _ => rfl) ?_)
        refine VC.nil (k14 ⟨25, [(4, _)]⟩ _ ?_)
        refine CWp.ret (q _ _ _ (.cons (.tmp rfl) .nil) ?_).1
        exact ⟨by simp only [one, szBoxL]; rw [if_neg (by omega), if_neg (by simpa using hc2)], (hs1.pre)⟩

theorem toMail (x : Mail) (H : AH) : FWp Try.prog 96 [.agg #[.int .i64 x.uid, .int .i64 x.flags, .int .i64 x.mod, .string (bs x.text)]] H (fun v' H' => v' = .agg #[.int .i64 x.uid, .int .i64 x.flags, .int .i64 x.mod, .string (bs x.text)] ∧ H' = H) := by
  refine FWp.pure rfl fun H ph => ?_
  refine FWp.enterK Try.func96 rfl (by decide +kernel) rfl rfl fun Q q => ?_
  have hs0 := Sep.nil (H := H)
  refine CWp.seqK fun Kk1 k1 => ?_
  refine CWp.regionW [1, 2] ?_
  refine VC.s rfl (RVs.box rfl TyOf.h rfl rfl rfl ?_)
  intro b1 H1 g1 l1 a1
  have hs1 := Sep.addB hs0 g1 l1 a1
  refine VC.s rfl (RVs.alloc ZeroOf.h TyOf.h rfl rfl ?_)
  intro b2 H2 g2 l2 a2
  have hs2 := Sep.addB hs1 g2 l2 a2
  refine VC.nil (k1 ⟨17, [(1, _), (2, _)]⟩ _ ?_)
  refine CWp.seqK fun Kk2 k2 => ?_
  refine CWp.regionW [1, 2, 3] ?_
  refine VC.s rfl (RVs.alloc ZeroOf.h TyOf.h rfl rfl ?_)
  intro b3 H3 g3 l3 a3
  have hs3 := Sep.addB hs2 g3 l3 a3
  refine VC.nil (k2 ⟨17, [(1, _), (2, _), (3, _)]⟩ _ ?_)
  refine CWp.seqK fun Kk3 k3 => ?_
  refine CWp.regionW [1, 2, 3] ?_
  refine VC.s rfl (RVs.fieldAddr rfl FieldOf.h (by decide) rfl (fun _ => rfl) ?_)
  refine VC.s rfl (RVs.load rfl TyOf.h rfl (fun _ => ⟨rfl, (Sep.at_ (i := 2) hs3 rfl), rw_live, rfl⟩) ?_)
  refine VC.s rfl (RVs.fieldAddr rfl FieldOf.h (by decide) rfl (fun _ => rfl) ?_)
  refine VC.s rfl (RVs.storeB (i := 0) hs3 rfl rfl rfl TyOf.h rfl rfl rfl ⟨rfl, rfl⟩ (Nat.le_of_ble_eq_true rfl) rfl ?_)
  intro H4 hs4
  refine VC.nil (k3 ⟨17, [(1, _), (2, _), (3, _)]⟩ _ ?_)
  refine CWp.seqK fun Kk4 k4 => ?_
  refine CWp.regionW [1, 2, 3] ?_
  refine VC.s rfl (RVs.fieldAddr rfl FieldOf.h (by decide) rfl (fun _ => rfl) ?_)
  refine VC.s rfl (RVs.load rfl TyOf.h rfl (fun _ => ⟨rfl, (Sep.at_ (i := 2) hs4 rfl), rw_live, rfl⟩) ?_)
  refine VC.s rfl (RVs.fieldAddr rfl FieldOf.h (by decide) rfl (fun _ => rfl) ?_)
  refine VC.s rfl (RVs.storeB (i := 0) hs4 rfl rfl rfl TyOf.h rfl rfl rfl ⟨rfl, rfl⟩ (Nat.le_of_ble_eq_true rfl) rfl ?_)
  intro H5 hs5
  refine VC.nil (k4 ⟨17, [(1, _), (2, _), (3, _)]⟩ _ ?_)
  refine CWp.seqK fun Kk5 k5 => ?_
  refine CWp.regionW [1, 2, 3] ?_
  refine VC.s rfl (RVs.fieldAddr rfl FieldOf.h (by decide) rfl (fun _ => rfl) ?_)
  refine VC.s rfl (RVs.load rfl TyOf.h rfl (fun _ => ⟨rfl, (Sep.at_ (i := 2) hs5 rfl), rw_live, rfl⟩) ?_)
  refine VC.s rfl (RVs.fieldAddr rfl FieldOf.h (by decide) rfl (fun _ => rfl) ?_)
  refine VC.s rfl (RVs.storeB (i := 0) hs5 rfl rfl rfl TyOf.h rfl rfl rfl ⟨rfl, rfl⟩ (Nat.le_of_ble_eq_true rfl) rfl ?_)
  intro H6 hs6
  refine VC.nil (k5 ⟨17, [(1, _), (2, _), (3, _)]⟩ _ ?_)
  refine CWp.seqK fun Kk6 k6 => ?_
  refine CWp.regionW [2, 3] ?_
  refine VC.s rfl (RVs.fieldAddr rfl FieldOf.h (by decide) rfl (fun _ => rfl) ?_)
  refine VC.s rfl (RVs.load rfl TyOf.h rfl (fun _ => ⟨rfl, (Sep.at_ (i := 2) hs6 rfl), rw_live, rfl⟩) ?_)
  refine VC.s rfl (RVs.fieldAddr rfl FieldOf.h (by decide) rfl (fun _ => rfl) ?_)
  refine VC.s rfl (RVs.storeB (i := 0) hs6 rfl rfl rfl TyOf.h rfl rfl rfl ⟨rfl, rfl⟩ (Nat.le_of_ble_eq_true rfl) rfl ?_)
  intro H7 hs7
  refine VC.nil (k6 ⟨17, [(2, _), (3, _)]⟩ _ ?_)
  refine CWp.seqK fun Kk7 k7 => ?_
  refine CWp.regionW [2] ?_
  refine VC.s rfl (RVs.load_agg rfl TyOf.h rfl (fun _ => ⟨rfl, (Sep.at_ (i := 0) hs7 rfl), rw_live, Nat.le_of_ble_eq_true rfl, rfl⟩) ?_)
  refine VC.s rfl (RVs.storeBN (i := 1) hs7 rfl rfl rfl TyOf.h rfl rfl rfl ⟨rfl, rfl⟩ rfl (Nat.le_of_ble_eq_true rfl) rfl ?_)
  intro H8 hs8
  refine VC.nil (k7 ⟨17, [(2, _)]⟩ _ ?_)
  refine CWp.ret (q _ _ _ (.cons (.cells rfl (Ty.of TyOf.h) (Sep.at_ (i := 1) hs8 rfl) rw_live (Nat.le_of_ble_eq_true rfl)) .nil) ?_).1
  exact ⟨rfl, (hs8.pre)⟩

theorem toMailS (va : Value) (xs : List Mail) (H : AH) (hS : kMail.S H va xs) (hn : xs.length ≤ 1048576) : FWp Try.prog 58 [va] H (fun v' H' => Fresh kMail.slice H H' [v'] xs) := by
  obtain ⟨aa, ca, rfl, hca⟩ := hS.form
  refine FWp.enterK Try.func58 rfl (by decide +kernel) rfl rfl fun Q q => ?_
  refine CWp.seqK fun Kk1 k1 => ?_
  refine CWp.regionW [0] ?_
  refine VC.s rfl (RVs.assign rfl rfl (fun _ => rfl) ?_)
  refine VC.nil (k1 ⟨23, [(0, _)]⟩ _ ?_)
  refine CWp.seqK fun Kk2 k2 => ?_
  refine CWp.regionW [0, 3] ?_
  refine VC.s rfl (RVs.move rfl rfl (fun _ => rfl) ?_)
  refine VC.s rfl (RVs.len_slice rfl UnSl.h rfl (fun _ => rfl) ?_)
  refine VC.s rfl (RVs.makeS rfl rfl ElemOf.h ElOk.h ZeroOf.h rfl rfl ⟨rfl, rfl⟩ (by omega) ?_)
  intro id1 H1 g1 l1 a1
  have p1 := (List.prefix_refl H).trans g1
  have fi1 := Kd.Fill.start (k := kMail) a1 rfl l1
  refine VC.s rfl (RVs.assign rfl rfl (fun _ => rfl) ?_)
  refine VC.nil (k2 ⟨23, [(0, _), (3, _)]⟩ _ ?_)
  refine CWp.seqK fun Kk3 k3 => ?_
  refine CWp.seqK fun Kk4 k4 => ?_
  refine CWp.regionW [0, 3, 4] ?_
  refine VC.s rfl (RVs.assign rfl rfl (fun _ => rfl) ?_)
  refine VC.nil (k4 ⟨23, [(0, _), (3, _), (4, _)]⟩ _ ?_)
  refine CWp.block ?_
  refine CWp.loopK (fun n T H' => ∃ i : Nat, T = ⟨23, [(0, .slice aa xs.length ca), (3, .slice (some ⟨id1, 0, none⟩) xs.length xs.length), (4, .int .i64 (i : Int))]⟩ ∧ n = xs.length - i ∧ (i ≤ xs.length) ∧ H <+: H' ∧ ∃ F, kMail.Fill 96 H.length H' id1 xs.length (xs.take i) F) (n := xs.length) ⟨0, rfl, by first | rfl | simp, by omega, p1, _, by simpa using fi1⟩ ?_
  rintro n T Hl1 Kk5 k5 ⟨i, rfl, hn1, hi, plo, Fo, hfo⟩
  refine CWp.seqK fun Kk6 k6 => ?_
  refine CWp.seqK fun Kk7 k7 => ?_
  refine CWp.regionW [0, 3, 4, 11] ?_
  refine VC.s rfl (RVs.move rfl rfl (fun _ => rfl) ?_)
  refine VC.s rfl (RVs.move rfl rfl (fun _ => rfl) ?_)
  refine VC.s rfl (RVs.len_slice rfl UnSl.h rfl (fun _ => rfl) ?_)
  refine VC.s rfl (RVs.bin rfl rfl rfl rfl (fun _ => ⟨⟨rfl, rfl⟩, rfl⟩) ?_)
  refine VC.nil (k7 ⟨23, [(0, _), (3, _), (4, _), (11, _)]⟩ _ ?_)
  refine CWp.condV rfl (fun hc1 => ?_) (fun hc1 => ?_)
  · try simp at hc1
    refine CWp.skip ?_
    refine k6 _ _ ?_
    refine CWp.seqK fun Kk8 k8 => ?_
    refine CWp.block ?_
    refine CWp.regionW [0, 3, 4] ?_
    refine VC.s rfl (RVs.move rfl rfl (fun _ => rfl) ?_)
    refine VC.s rfl (RVs.move rfl rfl (fun _ => rfl) ?_)
    refine VC.s rfl (RVs.move rfl rfl (fun _ => rfl) ?_)
    refine VC.s rfl (RVs.move rfl rfl (fun _ => rfl) ?_)
    refine VC.s rfl (RVs.indexS rfl (hS.mono (hle plo)) rfl ElemOf.h rfl (fun _ => ⟨⟨rfl, rfl⟩, by omega, by omega⟩) ?_)
    intro id2 j1 u1 B1 e1
    obtain ⟨y1, hy1, e1⟩ := e1 rfl
    obtain ⟨rfl, hw⟩ := e1.r
    refine VC.s rfl (RVs.loadE (k := kMail) rfl TyOf.h rfl (fun _ => ⟨rfl, e1⟩) ?_)
    refine VC.s rfl (RVs.callp rfl rfl rfl (fun _ => ⟨⟨rfl, rfl⟩, toMail _ _⟩) ?_)
    refine VC.s rfl (RVs.indexAddr rfl rfl ElemOf.h rfl (fun _ => ⟨⟨rfl, rfl⟩, by omega, by omega⟩) ?_)
    refine VC.s rfl (RVs.storeFill (k := kMail) rfl rfl TyOf.h rfl rfl rfl ⟨rfl, rfl⟩ hfo (by simp; omega) (by simp; omega) (⟨⟨rfl, hw⟩, rfl⟩) (by simpa using hfo.nd) (by simp) ?_)
    intro B2 H2 u2 fi2
    have p2 := u2.prefix plo (by have := List.IsPrefix.length_le plo; have := fi2.lo id1 (by simp); omega)
    refine VC.nil (k8 ⟨23, [(0, _), (3, _), (4, _)]⟩ _ ?_)
    refine CWp.regionW [0, 3, 4] ?_
    refine VC.s rfl (RVs.move rfl rfl (fun _ => rfl) ?_)
    refine VC.s rfl (RVs.bin rfl rfl rfl rfl (fun _ => ⟨⟨rfl, rfl⟩, rfl⟩) ?_)
    refine VC.s rfl (RVs.assign rfl rfl (fun _ => rfl) ?_)
    rw [wrap_succ (n := xs.length) (by omega) (by unfold lim; omega)]
    refine VC.nil (k5 _ ⟨23, [(0, _), (3, _), (4, _)]⟩ _ ?_ ⟨i + 1, rfl, rfl, by omega, p2, _, (take_snoc hy1) ▸ fi2⟩)
    omega
  · try simp at hc1
    refine CWp.exit ?_
    refine k3 _ _ ?_
    refine CWp.seqK fun Kk9 k9 => ?_
    refine CWp.regionW [2] ?_
    refine VC.s rfl (RVs.move rfl rfl (fun _ => rfl) ?_)
    refine VC.s rfl (RVs.assign rfl rfl (fun _ => rfl) ?_)
    refine VC.nil (k9 ⟨23, [(2, _)]⟩ _ ?_)
    refine CWp.ret (q _ _ _ (.cons (.tmp rfl) .nil) ?_).1
    have hf := hfo
    rw [List.take_of_length_le (by omega)] at hf
    exact hf.fresh plo rfl (by unfold lim; omega)

theorem toTomb (x : Tomb) (H : AH) : FWp Try.prog 97 [.agg #[.int .i64 x.uid, .int .i64 x.mod]] H (fun v' H' => v' = .agg #[.int .i64 x.uid, .int .i64 x.mod] ∧ H' = H) := by
  refine FWp.pure rfl fun H ph => ?_
  refine FWp.enterK Try.func97 rfl (by decide +kernel) rfl rfl fun Q q => ?_
  have hs0 := Sep.nil (H := H)
  refine CWp.seqK fun Kk1 k1 => ?_
  refine CWp.regionW [1, 2] ?_
  refine VC.s rfl (RVs.box rfl TyOf.h rfl rfl rfl ?_)
  intro b1 H1 g1 l1 a1
  have hs1 := Sep.addB hs0 g1 l1 a1
  refine VC.s rfl (RVs.alloc ZeroOf.h TyOf.h rfl rfl ?_)
  intro b2 H2 g2 l2 a2
  have hs2 := Sep.addB hs1 g2 l2 a2
  refine VC.nil (k1 ⟨11, [(1, _), (2, _)]⟩ _ ?_)
  refine CWp.seqK fun Kk2 k2 => ?_
  refine CWp.regionW [1, 2, 3] ?_
  refine VC.s rfl (RVs.alloc ZeroOf.h TyOf.h rfl rfl ?_)
  intro b3 H3 g3 l3 a3
  have hs3 := Sep.addB hs2 g3 l3 a3
  refine VC.nil (k2 ⟨11, [(1, _), (2, _), (3, _)]⟩ _ ?_)
  refine CWp.seqK fun Kk3 k3 => ?_
  refine CWp.regionW [1, 2, 3] ?_
  refine VC.s rfl (RVs.fieldAddr rfl FieldOf.h (by decide) rfl (fun _ => rfl) ?_)
  refine VC.s rfl (RVs.load rfl TyOf.h rfl (fun _ => ⟨rfl, (Sep.at_ (i := 2) hs3 rfl), rw_live, rfl⟩) ?_)
  refine VC.s rfl (RVs.fieldAddr rfl FieldOf.h (by decide) rfl (fun _ => rfl) ?_)
  refine VC.s rfl (RVs.storeB (i := 0) hs3 rfl rfl rfl TyOf.h rfl rfl rfl ⟨rfl, rfl⟩ (Nat.le_of_ble_eq_true rfl) rfl ?_)
  intro H4 hs4
  refine VC.nil (k3 ⟨11, [(1, _), (2, _), (3, _)]⟩ _ ?_)
  refine CWp.seqK fun Kk4 k4 => ?_
  refine CWp.regionW [2, 3] ?_
  refine VC.s rfl (RVs.fieldAddr rfl FieldOf.h (by decide) rfl (fun _ => rfl) ?_)
  refine VC.s rfl (RVs.load rfl TyOf.h rfl (fun _ => ⟨rfl, (Sep.at_ (i := 2) hs4 rfl), rw_live, rfl⟩) ?_)
  refine VC.s rfl (RVs.fieldAddr rfl FieldOf.h (by decide) rfl (fun _ => rfl) ?_)
  refine VC.s rfl (RVs.storeB (i := 0) hs4 rfl rfl rfl TyOf.h rfl rfl rfl ⟨rfl, rfl⟩ (Nat.le_of_ble_eq_true rfl) rfl ?_)
  intro H5 hs5
  refine VC.nil (k4 ⟨11, [(2, _), (3, _)]⟩ _ ?_)
  refine CWp.seqK fun Kk5 k5 => ?_
  refine CWp.regionW [2] ?_
  refine VC.s rfl (RVs.load_agg rfl TyOf.h rfl (fun _ => ⟨rfl, (Sep.at_ (i := 0) hs5 rfl), rw_live, Nat.le_of_ble_eq_true rfl, rfl⟩) ?_)
  refine VC.s rfl (RVs.storeBN (i := 1) hs5 rfl rfl rfl TyOf.h rfl rfl rfl ⟨rfl, rfl⟩ rfl (Nat.le_of_ble_eq_true rfl) rfl ?_)
  intro H6 hs6
  refine VC.nil (k5 ⟨11, [(2, _)]⟩ _ ?_)
  refine CWp.ret (q _ _ _ (.cons (.cells rfl (Ty.of TyOf.h) (Sep.at_ (i := 1) hs6 rfl) rw_live (Nat.le_of_ble_eq_true rfl)) .nil) ?_).1
  exact ⟨rfl, (hs6.pre)⟩

theorem toTombS (va : Value) (xs : List Tomb) (H : AH) (hS : kTomb.S H va xs) (hn : xs.length ≤ 1048576) : FWp Try.prog 59 [va] H (fun v' H' => Fresh kTomb.slice H H' [v'] xs) := by
  obtain ⟨aa, ca, rfl, hca⟩ := hS.form
  refine FWp.enterK Try.func59 rfl (by decide +kernel) rfl rfl fun Q q => ?_
  refine CWp.seqK fun Kk1 k1 => ?_
  refine CWp.regionW [0] ?_
  refine VC.s rfl (RVs.assign rfl rfl (fun _ => rfl) ?_)
  refine VC.nil (k1 ⟨23, [(0, _)]⟩ _ ?_)
  refine CWp.seqK fun Kk2 k2 => ?_
  refine CWp.regionW [0, 3] ?_
  refine VC.s rfl (RVs.move rfl rfl (fun _ => rfl) ?_)
  refine VC.s rfl (RVs.len_slice rfl UnSl.h rfl (fun _ => rfl) ?_)
  refine VC.s rfl (RVs.makeS rfl rfl ElemOf.h ElOk.h ZeroOf.h rfl rfl ⟨rfl, rfl⟩ (by omega) ?_)
  intro id1 H1 g1 l1 a1
  have p1 := (List.prefix_refl H).trans g1
  have fi1 := Kd.Fill.start (k := kTomb) a1 rfl l1
  refine VC.s rfl (RVs.assign rfl rfl (fun _ => rfl) ?_)
  refine VC.nil (k2 ⟨23, [(0, _), (3, _)]⟩ _ ?_)
  refine CWp.seqK fun Kk3 k3 => ?_
  refine CWp.seqK fun Kk4 k4 => ?_
  refine CWp.regionW [0, 3, 4] ?_
  refine VC.s rfl (RVs.assign rfl rfl (fun _ => rfl) ?_)
  refine VC.nil (k4 ⟨23, [(0, _), (3, _), (4, _)]⟩ _ ?_)
  refine CWp.block ?_
  refine CWp.loopK (fun n T H' => ∃ i : Nat, T = ⟨23, [(0, .slice aa xs.length ca), (3, .slice (some ⟨id1, 0, none⟩) xs.length xs.length), (4, .int .i64 (i : Int))]⟩ ∧ n = xs.length - i ∧ (i ≤ xs.length) ∧ H <+: H' ∧ ∃ F, kTomb.Fill 130 H.length H' id1 xs.length (xs.take i) F) (n := xs.length) ⟨0, rfl, by first | rfl | simp, by omega, p1, _, by simpa using fi1⟩ ?_
  rintro n T Hl1 Kk5 k5 ⟨i, rfl, hn1, hi, plo, Fo, hfo⟩
  refine CWp.seqK fun Kk6 k6 => ?_
  refine CWp.seqK fun Kk7 k7 => ?_
  refine CWp.regionW [0, 3, 4, 11] ?_
  refine VC.s rfl (RVs.move rfl rfl (fun _ => rfl) ?_)
  refine VC.s rfl (RVs.move rfl rfl (fun _ => rfl) ?_)
  refine VC.s rfl (RVs.len_slice rfl UnSl.h rfl (fun _ => rfl) ?_)
  refine VC.s rfl (RVs.bin rfl rfl rfl rfl (fun _ => ⟨⟨rfl, rfl⟩, rfl⟩) ?_)
  refine VC.nil (k7 ⟨23, [(0, _), (3, _), (4, _), (11, _)]⟩ _ ?_)
  refine CWp.condV rfl (fun hc1 => ?_) (fun hc1 => ?_)
  · try simp at hc1
    refine CWp.skip ?_
    refine k6 _ _ ?_
    refine CWp.seqK fun Kk8 k8 => ?_
    refine CWp.block ?_
    refine CWp.regionW [0, 3, 4] ?_
    refine VC.s rfl (RVs.move rfl rfl (fun _ => rfl) ?_)
    refine VC.s rfl (RVs.move rfl rfl (fun _ => rfl) ?_)
    refine VC.s rfl (RVs.move rfl rfl (fun _ => rfl) ?_)
    refine VC.s rfl (RVs.move rfl rfl (fun _ => rfl) ?_)
    refine VC.s rfl (RVs.indexS rfl (hS.mono (hle plo)) rfl ElemOf.h rfl (fun _ => ⟨⟨rfl, rfl⟩, by omega, by omega⟩) ?_)
    intro id2 j1 u1 B1 e1
    obtain ⟨y1, hy1, e1⟩ := e1 rfl
    obtain ⟨rfl, hw⟩ := e1.r
    refine VC.s rfl (RVs.loadE (k := kTomb) rfl TyOf.h rfl (fun _ => ⟨rfl, e1⟩) ?_)
    refine VC.s rfl (RVs.callp rfl rfl rfl (fun _ => ⟨⟨rfl, rfl⟩, toTomb _ _⟩) ?_)
    refine VC.s rfl (RVs.indexAddr rfl rfl ElemOf.h rfl (fun _ => ⟨⟨rfl, rfl⟩, by omega, by omega⟩) ?_)
    refine VC.s rfl (RVs.storeFill (k := kTomb) rfl rfl TyOf.h rfl rfl rfl ⟨rfl, rfl⟩ hfo (by simp; omega) (by simp; omega) (⟨⟨rfl, trivial⟩, rfl⟩) (by simpa using hfo.nd) (by simp) ?_)
    intro B2 H2 u2 fi2
    have p2 := u2.prefix plo (by have := List.IsPrefix.length_le plo; have := fi2.lo id1 (by simp); omega)
    refine VC.nil (k8 ⟨23, [(0, _), (3, _), (4, _)]⟩ _ ?_)
    refine CWp.regionW [0, 3, 4] ?_
    refine VC.s rfl (RVs.move rfl rfl (fun _ => rfl) ?_)
    refine VC.s rfl (RVs.bin rfl rfl rfl rfl (fun _ => ⟨⟨rfl, rfl⟩, rfl⟩) ?_)
    refine VC.s rfl (RVs.assign rfl rfl (fun _ => rfl) ?_)
    rw [wrap_succ (n := xs.length) (by omega) (by unfold lim; omega)]
    refine VC.nil (k5 _ ⟨23, [(0, _), (3, _), (4, _)]⟩ _ ?_ ⟨i + 1, rfl, rfl, by omega, p2, _, (take_snoc hy1) ▸ fi2⟩)
    omega
  · try simp at hc1
    refine CWp.exit ?_
    refine k3 _ _ ?_
    refine CWp.seqK fun Kk9 k9 => ?_
    refine CWp.regionW [2] ?_
    refine VC.s rfl (RVs.move rfl rfl (fun _ => rfl) ?_)
    refine VC.s rfl (RVs.assign rfl rfl (fun _ => rfl) ?_)
    refine VC.nil (k9 ⟨23, [(2, _)]⟩ _ ?_)
    refine CWp.ret (q _ _ _ (.cons (.tmp rfl) .nil) ?_).1
    have hf := hfo
    rw [List.take_of_length_le (by omega)] at hf
    exact hf.fresh plo rfl (by unfold lim; omega)

theorem eqMail (x y : Mail) (H : AH) : FWp Try.prog 104 [.agg #[.int .i64 x.uid, .int .i64 x.flags, .int .i64 x.mod, .string (bs x.text)], .agg #[.int .i64 y.uid, .int .i64 y.flags, .int .i64 y.mod, .string (bs y.text)]] H (fun v' H' => v' = .bool (decide (x = y)) ∧ H' = H) := by
  refine FWp.pure rfl fun H ph => ?_
  refine FWp.enterK Try.func104 rfl (by decide +kernel) rfl rfl fun Q q => ?_
  have hs0 := Sep.nil (H := H)
  refine CWp.seqK fun Kk1 k1 => ?_
  refine CWp.regionW [2, 3] ?_
  refine VC.s rfl (RVs.box rfl TyOf.h rfl rfl rfl ?_)
  intro b1 H1 g1 l1 a1
  have hs1 := Sep.addB hs0 g1 l1 a1
  refine VC.s rfl (RVs.box rfl TyOf.h rfl rfl rfl ?_)
  intro b2 H2 g2 l2 a2
  have hs2 := Sep.addB hs1 g2 l2 a2
  refine VC.s rfl (RVs.assign rfl rfl (fun _ => rfl) ?_)
  refine VC.nil (k1 ⟨25, [(2, _), (3, _)]⟩ _ ?_)
  refine CWp.seqK fun Kk2 k2 => ?_
  refine CWp.seqK fun Kk3 k3 => ?_
  refine CWp.regionW [2, 3, 9] ?_
  refine VC.s rfl (RVs.fieldAddr rfl FieldOf.h (by decide) rfl (fun _ => rfl) ?_)
  refine VC.s rfl (RVs.load rfl TyOf.h rfl (fun _ => ⟨rfl, (Sep.at_ (i := 1) hs2 rfl), rw_live, rfl⟩) ?_)
  refine VC.s rfl (RVs.fieldAddr rfl FieldOf.h (by decide) rfl (fun _ => rfl) ?_)
  refine VC.s rfl (RVs.load rfl TyOf.h rfl (fun _ => ⟨rfl, (Sep.at_ (i := 0) hs2 rfl), rw_live, rfl⟩) ?_)
  refine VC.s rfl (RVs.bin rfl rfl rfl rfl (fun _ => ⟨⟨rfl, rfl⟩, rfl⟩) ?_)
  refine VC.nil (k3 ⟨25, [(2, _), (3, _), (9, _)]⟩ _ ?_)
  refine CWp.condV rfl (fun hc1 => ?_) (fun hc1 => ?_)
  · try simp at hc1
    refine CWp.seqK fun Kk4 k4 => ?_
    refine CWp.regionW [4] ?_
    refine VC.s rfl (RVs.assign rfl rfl (fun _ => rfl) ?_)
    refine VC.nil (k4 ⟨25, [(4, _)]⟩ _ ?_)
    refine CWp.ret (q _ _ _ (.cons (.tmp rfl) .nil) ?_).1
    exact ⟨by simp [one, show ¬ x = y from fun h => hc1 (by rw [h])], (hs2.pre)⟩
  · try simp at hc1
    refine CWp.skip ?_
    refine k2 _ _ ?_
    refine CWp.seqK fun Kk5 k5 => ?_
    refine CWp.seqK fun Kk6 k6 => ?_
    refine CWp.regionW [2, 3, 14] ?_
    refine VC.s rfl (RVs.fieldAddr rfl FieldOf.h (by decide) rfl (fun _ => rfl) ?_)
    refine VC.s rfl (RVs.load rfl TyOf.h rfl (fun _ => ⟨rfl, (Sep.at_ (i := 1) hs2 rfl), rw_live, rfl⟩) ?_)
    refine VC.s rfl (RVs.fieldAddr rfl FieldOf.h (by decide) rfl (fun _ => rfl) ?_)
    refine VC.s rfl (RVs.load rfl TyOf.h rfl (fun _ => ⟨rfl, (Sep.at_ (i := 0) hs2 rfl), rw_live, rfl⟩) ?_)
    refine VC.s rfl (RVs.bin rfl rfl rfl rfl (fun _ => ⟨⟨rfl, rfl⟩, rfl⟩) ?_)
    refine VC.nil (k6 ⟨25, [(2, _), (3, _), (14, _)]⟩ _ ?_)
    refine CWp.condV rfl (fun hc2 => ?_) (fun hc2 => ?_)
    · try simp at hc2
      refine CWp.seqK fun Kk7 k7 => ?_
      refine CWp.regionW [4] ?_
      refine VC.s rfl (RVs.assign rfl rfl (fun _ => rfl) ?_)
      refine VC.nil (k7 ⟨25, [(4, _)]⟩ _ ?_)
      refine CWp.ret (q _ _ _ (.cons (.tmp rfl) .nil) ?_).1
      exact ⟨by simp [one, show ¬ x = y from fun h => hc2 (by rw [h])], (hs2.pre)⟩
    · try simp at hc2
      refine CWp.skip ?_
      refine k5 _ _ ?_
      refine CWp.seqK fun Kk8 k8 => ?_
      refine CWp.seqK fun Kk9 k9 => ?_
      refine CWp.regionW [2, 3, 19] ?_
      refine VC.s rfl (RVs.fieldAddr rfl FieldOf.h (by decide) rfl (fun _ => rfl) ?_)
      refine VC.s rfl (RVs.load rfl TyOf.h rfl (fun _ => ⟨rfl, (Sep.at_ (i := 1) hs2 rfl), rw_live, rfl⟩) ?_)
      refine VC.s rfl (RVs.fieldAddr rfl FieldOf.h (by decide) rfl (fun _ => rfl) ?_)
      refine VC.s rfl (RVs.load rfl TyOf.h rfl (fun _ => ⟨rfl, (Sep.at_ (i := 0) hs2 rfl), rw_live, rfl⟩) ?_)
      refine VC.s rfl (RVs.bin rfl rfl rfl rfl (fun _ => ⟨⟨rfl, rfl⟩, rfl⟩) ?_)
      refine VC.nil (k9 ⟨25, [(2, _), (3, _), (19, _)]⟩ _ ?_)
      refine CWp.condV rfl (fun hc3 => ?_) (fun hc3 => ?_)
      · try simp at hc3
        refine CWp.seqK fun Kk10 k10 => ?_
        refine CWp.regionW [4] ?_
        refine VC.s rfl (RVs.assign rfl rfl (fun _ => rfl) ?_)
        refine VC.nil (k10 ⟨25, [(4, _)]⟩ _ ?_)
        refine CWp.ret (q _ _ _ (.cons (.tmp rfl) .nil) ?_).1
        exact ⟨by simp [one, show ¬ x = y from fun h => hc3 (by rw [h])], (hs2.pre)⟩
      · try simp at hc3
        refine CWp.skip ?_
        refine k8 _ _ ?_
        refine CWp.seqK fun Kk11 k11 => ?_
        refine CWp.seqK fun Kk12 k12 => ?_
        refine CWp.regionW [24] ?_
        refine VC.s rfl (RVs.fieldAddr rfl FieldOf.h (by decide) rfl (fun _ => rfl) ?_)
        refine VC.s rfl (RVs.load rfl TyOf.h rfl (fun _ => ⟨rfl, (Sep.at_ (i := 1) hs2 rfl), rw_live, rfl⟩) ?_)
        refine VC.s rfl (RVs.fieldAddr rfl FieldOf.h (by decide) rfl (fun _ => rfl) ?_)
        refine VC.s rfl (RVs.load rfl TyOf.h rfl (fun _ => ⟨rfl, (Sep.at_ (i := 0) hs2 rfl), rw_live, rfl⟩) ?_)
        refine VC.s rfl (RVs.bin rfl rfl rfl rfl (fun _ => ⟨⟨rfl, rfl⟩, trivial⟩) ?_)
        refine VC.nil (k12 ⟨25, [(24, _)]⟩ _ ?_)
        refine CWp.condV rfl (fun hc4 => ?_) (fun hc4 => ?_)
        · try simp at hc4
          refine CWp.seqK fun Kk13 k13 => ?_
          refine CWp.regionW [4] ?_
          refine VC.s rfl (RVs.assign rfl rfl (fun _ => rfl) ?_)
          refine VC.nil (k13 ⟨25, [(4, _)]⟩ _ ?_)
          refine CWp.ret (q _ _ _ (.cons (.tmp rfl) .nil) ?_).1
          exact ⟨by simp [one, show ¬ x = y from fun h => hc4 (by rw [h])], (hs2.pre)⟩
        · try simp at hc4
          refine CWp.skip ?_
          refine k11 _ _ ?_
          refine CWp.seqK fun Kk14 k14 => ?_
          refine CWp.regionW [4] ?_
          refine VC.s rfl (RVs.assign rfl rfl (fun _ => rfl) ?_)
          refine VC.nil (k14 ⟨25, [(4, _)]⟩ _ ?_)
          refine CWp.ret (q _ _ _ (.cons (.tmp rfl) .nil) ?_).1
          exact ⟨by cases x; cases y; simp_all [one], (hs2.pre)⟩

theorem eqMailS (va vb : Value) (xs ys : List Mail) (H : AH) (ha : kMail.S H va xs) (hb : kMail.S H vb ys) : FWp Try.prog 67 [va, vb] H (fun v' H' => v' = .bool (decide (xs = ys)) ∧ H' = H) := by
  refine FWp.pure rfl fun H ph => ?_
  replace ha := ha.mono (hle ph)
  replace hb := hb.mono (hle ph)
  have hal := ha.lim
  unfold lim at hal
  obtain ⟨aa, ca, rfl, hac⟩ := ha.form
  have hbl := hb.lim
  unfold lim at hbl
  obtain ⟨ab, cb, rfl, hbc⟩ := hb.form
  refine FWp.enterK Try.func67 rfl (by decide +kernel) rfl rfl fun Q q => ?_
  have hs0 := Sep.nil (H := H)
  refine CWp.seqK fun Kk1 k1 => ?_
  refine CWp.regionW [0, 1] ?_
  refine VC.s rfl (RVs.assign rfl rfl (fun _ => rfl) ?_)
  refine VC.nil (k1 ⟨27, [(0, _), (1, _)]⟩ _ ?_)
  refine CWp.seqK fun Kk2 k2 => ?_
  refine CWp.seqK fun Kk3 k3 => ?_
  refine CWp.regionW [0, 1, 10] ?_
  refine VC.s rfl (RVs.move rfl rfl (fun _ => rfl) ?_)
  refine VC.s rfl (RVs.len_slice rfl UnSl.h rfl (fun _ => rfl) ?_)
  refine VC.s rfl (RVs.move rfl rfl (fun _ => rfl) ?_)
  refine VC.s rfl (RVs.len_slice rfl UnSl.h rfl (fun _ => rfl) ?_)
  refine VC.s rfl (RVs.bin rfl rfl rfl rfl (fun _ => ⟨⟨rfl, rfl⟩, rfl⟩) ?_)
  refine VC.nil (k3 ⟨27, [(0, _), (1, _), (10, _)]⟩ _ ?_)
  refine CWp.condV rfl (fun hc1 => ?_) (fun hc1 => ?_)
  · try simp at hc1
    refine CWp.seqK fun Kk4 k4 => ?_
    refine CWp.regionW [4] ?_
    refine VC.s rfl (RVs.assign rfl rfl (fun _ => rfl) ?_)
    refine VC.nil (k4 ⟨27, [(4, _)]⟩ _ ?_)
    refine CWp.ret (q _ _ _ (.cons (.tmp rfl) .nil) ?_).1
    exact ⟨by simp [one, show ¬ xs = ys from fun h => hc1 (by rw [h])], (hs0.pre)⟩
  · try simp at hc1
    refine CWp.skip ?_
    refine k2 _ _ ?_
    refine CWp.seqK fun Kk5 k5 => ?_
    refine CWp.seqK fun Kk6 k6 => ?_
    refine CWp.regionW [0, 1, 5] ?_
    refine VC.s rfl (RVs.assign rfl rfl (fun _ => rfl) ?_)
    refine VC.nil (k6 ⟨27, [(0, _), (1, _), (5, _)]⟩ _ ?_)
    refine CWp.block ?_
    refine CWp.loopK (fun n T H' => ∃ i : Nat, T = ⟨27, [(0, .slice aa xs.length ca), (1, .slice ab ys.length cb), (5, .int .i64 (i : Int))]⟩ ∧ n = xs.length - i ∧ (i ≤ xs.length) ∧ (xs.take i = ys.take i) ∧ H <+: H') (n := xs.length) ⟨0, rfl, by first | rfl | simp, by omega, by simp, List.prefix_refl _⟩ ?_
    rintro n T Hl1 Kk7 k7 ⟨i, rfl, hn1, hi, heq, hs1⟩
    have hs2 := Sep.grow hs0 hs1
    have hs3 := Sep.nil (H := Hl1)
    refine CWp.seqK fun Kk8 k8 => ?_
    refine CWp.seqK fun Kk9 k9 => ?_
    refine CWp.regionW [0, 1, 5, 14] ?_
    refine VC.s rfl (RVs.move rfl rfl (fun _ => rfl) ?_)
    refine VC.s rfl (RVs.move rfl rfl (fun _ => rfl) ?_)
    refine VC.s rfl (RVs.len_slice rfl UnSl.h rfl (fun _ => rfl) ?_)
    refine VC.s rfl (RVs.bin rfl rfl rfl rfl (fun _ => ⟨⟨rfl, rfl⟩, rfl⟩) ?_)
    refine VC.nil (k9 ⟨27, [(0, _), (1, _), (5, _), (14, _)]⟩ _ ?_)
    refine CWp.condV rfl (fun hc2 => ?_) (fun hc2 => ?_)
    · try simp at hc2
      refine CWp.skip ?_
      refine k8 _ _ ?_
      refine CWp.seqK fun Kk10 k10 => ?_
      refine CWp.block ?_
      refine CWp.seqK fun Kk11 k11 => ?_
      refine CWp.regionDW [0, 1, 5, 26] [false, false, false, false, false, false, false, false, false, false] (by decide +kernel) ?_
      refine VC.s rfl (RVs.move rfl rfl (fun _ => rfl) ?_)
      refine VC.s rfl (RVs.move rfl rfl (fun _ => rfl) ?_)
      refine VC.s rfl (RVs.indexS rfl (ha.mono (hle (List.IsPrefix.trans hs2.pre (hs3.pre)))) rfl ElemOf.h rfl (fun _ => ⟨⟨rfl, rfl⟩, by omega, by omega⟩) ?_)
      intro id1 j1 u1 B1 e1
      obtain ⟨y1, hy1, e1⟩ := e1 rfl
      try simp only [Int.toNat_natCast] at hy1
      obtain ⟨rfl, hwy1⟩ := e1.r
      refine VC.s rfl (RVs.loadE (k := kMail) rfl TyOf.h rfl (fun _ => ⟨rfl, e1⟩) ?_)
      refine VC.s rfl (RVs.move rfl rfl (fun _ => rfl) ?_)
      refine VC.s rfl (RVs.move rfl rfl (fun _ => rfl) ?_)
      refine VC.s rfl (RVs.indexS rfl (hb.mono (hle (List.IsPrefix.trans hs2.pre (hs3.pre)))) rfl ElemOf.h rfl (fun _ => ⟨⟨rfl, rfl⟩, by omega, by omega⟩) ?_)
      intro id2 j2 u2 B2 e2
      obtain ⟨y2, hy2, e2⟩ := e2 rfl
      try simp only [Int.toNat_natCast] at hy2
      obtain ⟨rfl, hwy2⟩ := e2.r
      refine VC.s rfl (RVs.loadE (k := kMail) rfl TyOf.h rfl (fun _ => ⟨rfl, e2⟩) ?_)
      refine VC.s rfl (RVs.callp rfl rfl rfl (fun _ => ⟨⟨rfl, rfl⟩, eqMail _ _ _ ⟩) ?_)
      refine VC.s rfl (RVs.not rfl rfl (fun _ => rfl) ?_)
      refine VC.nil (k11 ⟨27, [(0, _), (1, _), (5, _), (26, _)]⟩ _ ?_)
      refine CWp.condV rfl (fun hc3 => ?_) (fun hc3 => ?_)
      · try simp at hc3
        refine CWp.seqK fun Kk12 k12 => ?_
        refine CWp.regionW [4] ?_
        refine VC.s rfl (RVs.assign rfl rfl (fun _ => rfl) ?_)
        refine VC.nil (k12 ⟨27, [(4, _)]⟩ _ ?_)
        refine CWp.ret (q _ _ _ (.cons (.tmp rfl) .nil) ?_).1
        exact ⟨by simp [one, ne_at hy1 hy2 hc3], (List.IsPrefix.trans hs2.pre (hs3.pre))⟩
      · try simp at hc3
        refine CWp.skip ?_
        refine k10 _ _ ?_
        refine CWp.regionW [0, 1, 5] ?_
        refine VC.s rfl (RVs.move rfl rfl (fun _ => rfl) ?_)
        refine VC.s rfl (RVs.arith (r := ((i + 1 : Nat) : Int)) rfl rfl rfl (by (try simp only [bl_bs]); first | exact wrap_in (by omega) | (rw [wrap_in (by omega)]; omega)) rfl (fun _ => ⟨⟨rfl, rfl⟩, rfl⟩) ?_)
        refine VC.s rfl (RVs.assign rfl rfl (fun _ => rfl) ?_)
        refine VC.nil (k7 _ ⟨27, [(0, _), (1, _), (5, _)]⟩ _ ?_ ⟨i + 1, rfl, rfl, by omega, take_succ heq hy1 hy2 hc3, List.IsPrefix.trans hs1 hs3.pre⟩)
        omega
    · try simp at hc2
      refine CWp.exit ?_
      refine k5 _ _ ?_
      refine CWp.seqK fun Kk13 k13 => ?_
      refine CWp.regionW [4] ?_
      refine VC.s rfl (RVs.assign rfl rfl (fun _ => rfl) ?_)
      refine VC.nil (k13 ⟨27, [(4, _)]⟩ _ ?_)
      refine CWp.ret (q _ _ _ (.cons (.tmp rfl) .nil) ?_).1
      exact ⟨by simp [one, take_all heq (by omega) (by omega)], (List.IsPrefix.trans hs2.pre (hs3.pre))⟩

theorem eqTomb (x y : Tomb) (H : AH) : FWp Try.prog 105 [.agg #[.int .i64 x.uid, .int .i64 x.mod], .agg #[.int .i64 y.uid, .int .i64 y.mod]] H (fun v' H' => v' = .bool (decide (x = y)) ∧ H' = H) := by
  refine FWp.pure rfl fun H ph => ?_
  refine FWp.enterK Try.func105 rfl (by decide +kernel) rfl rfl fun Q q => ?_
  have hs0 := Sep.nil (H := H)
  refine CWp.seqK fun Kk1 k1 => ?_
  refine CWp.regionW [2, 3] ?_
  refine VC.s rfl (RVs.box rfl TyOf.h rfl rfl rfl ?_)
  intro b1 H1 g1 l1 a1
  have hs1 := Sep.addB hs0 g1 l1 a1
  refine VC.s rfl (RVs.box rfl TyOf.h rfl rfl rfl ?_)
  intro b2 H2 g2 l2 a2
  have hs2 := Sep.addB hs1 g2 l2 a2
  refine VC.s rfl (RVs.assign rfl rfl (fun _ => rfl) ?_)
  refine VC.nil (k1 ⟨15, [(2, _), (3, _)]⟩ _ ?_)
  refine CWp.seqK fun Kk2 k2 => ?_
  refine CWp.seqK fun Kk3 k3 => ?_
  refine CWp.regionW [2, 3, 9] ?_
  refine VC.s rfl (RVs.fieldAddr rfl FieldOf.h (by decide) rfl (fun _ => rfl) ?_)
  refine VC.s rfl (RVs.load rfl TyOf.h rfl (fun _ => ⟨rfl, (Sep.at_ (i := 1) hs2 rfl), rw_live, rfl⟩) ?_)
  refine VC.s rfl (RVs.fieldAddr rfl FieldOf.h (by decide) rfl (fun _ => rfl) ?_)
  refine VC.s rfl (RVs.load rfl TyOf.h rfl (fun _ => ⟨rfl, (Sep.at_ (i := 0) hs2 rfl), rw_live, rfl⟩) ?_)
  refine VC.s rfl (RVs.bin rfl rfl rfl rfl (fun _ => ⟨⟨rfl, rfl⟩, rfl⟩) ?_)
  refine VC.nil (k3 ⟨15, [(2, _), (3, _), (9, _)]⟩ _ ?_)
  refine CWp.condV rfl (fun hc1 => ?_) (fun hc1 => ?_)
  · try simp at hc1
    refine CWp.seqK fun Kk4 k4 => ?_
    refine CWp.regionW [4] ?_
    refine VC.s rfl (RVs.assign rfl rfl (fun _ => rfl) ?_)
    refine VC.nil (k4 ⟨15, [(4, _)]⟩ _ ?_)
    refine CWp.ret (q _ _ _ (.cons (.tmp rfl) .nil) ?_).1
    exact ⟨by simp [one, show ¬ x = y from fun h => hc1 (by rw [h])], (hs2.pre)⟩
  · try simp at hc1
    refine CWp.skip ?_
    refine k2 _ _ ?_
    refine CWp.seqK fun Kk5 k5 => ?_
    refine CWp.seqK fun Kk6 k6 => ?_
    refine CWp.regionW [14] ?_
    refine VC.s rfl (RVs.fieldAddr rfl FieldOf.h (by decide) rfl (fun _ => rfl) ?_)
    refine VC.s rfl (RVs.load rfl TyOf.h rfl (fun _ => ⟨rfl, (Sep.at_ (i := 1) hs2 rfl), rw_live, rfl⟩) ?_)
    refine VC.s rfl (RVs.fieldAddr rfl FieldOf.h (by decide) rfl (fun _ => rfl) ?_)
    refine VC.s rfl (RVs.load rfl TyOf.h rfl (fun _ => ⟨rfl, (Sep.at_ (i := 0) hs2 rfl), rw_live, rfl⟩) ?_)
    refine VC.s rfl (RVs.bin rfl rfl rfl rfl (fun _ => ⟨⟨rfl, rfl⟩, rfl⟩) ?_)
    refine VC.nil (k6 ⟨15, [(14, _)]⟩ _ ?_)
    refine CWp.condV rfl (fun hc2 => ?_) (fun hc2 => ?_)
    · try simp at hc2
      refine CWp.seqK fun Kk7 k7 => ?_
      refine CWp.regionW [4] ?_
      refine VC.s rfl (RVs.assign rfl rfl (fun _ => rfl) ?_)
      refine VC.nil (k7 ⟨15, [(4, _)]⟩ _ ?_)
      refine CWp.ret (q _ _ _ (.cons (.tmp rfl) .nil) ?_).1
      exact ⟨by simp [one, show ¬ x = y from fun h => hc2 (by rw [h])], (hs2.pre)⟩
    · try simp at hc2
      refine CWp.skip ?_
      refine k5 _ _ ?_
      refine CWp.seqK fun Kk8 k8 => ?_
      refine CWp.regionW [4] ?_
      refine VC.s rfl (RVs.assign rfl rfl (fun _ => rfl) ?_)
      refine VC.nil (k8 ⟨15, [(4, _)]⟩ _ ?_)
      refine CWp.ret (q _ _ _ (.cons (.tmp rfl) .nil) ?_).1
      exact ⟨by cases x; cases y; simp_all [one], (hs2.pre)⟩

theorem eqTombS (va vb : Value) (xs ys : List Tomb) (H : AH) (ha : kTomb.S H va xs) (hb : kTomb.S H vb ys) : FWp Try.prog 68 [va, vb] H (fun v' H' => v' = .bool (decide (xs = ys)) ∧ H' = H) := by
  refine FWp.pure rfl fun H ph => ?_
  replace ha := ha.mono (hle ph)
  replace hb := hb.mono (hle ph)
  have hal := ha.lim
  unfold lim at hal
  obtain ⟨aa, ca, rfl, hac⟩ := ha.form
  have hbl := hb.lim
  unfold lim at hbl
  obtain ⟨ab, cb, rfl, hbc⟩ := hb.form
  refine FWp.enterK Try.func68 rfl (by decide +kernel) rfl rfl fun Q q => ?_
  have hs0 := Sep.nil (H := H)
  refine CWp.seqK fun Kk1 k1 => ?_
  refine CWp.regionW [0, 1] ?_
  refine VC.s rfl (RVs.assign rfl rfl (fun _ => rfl) ?_)
  refine VC.nil (k1 ⟨27, [(0, _), (1, _)]⟩ _ ?_)
  refine CWp.seqK fun Kk2 k2 => ?_
  refine CWp.seqK fun Kk3 k3 => ?_
  refine CWp.regionW [0, 1, 10] ?_
  refine VC.s rfl (RVs.move rfl rfl (fun _ => rfl) ?_)
  refine VC.s rfl (RVs.len_slice rfl UnSl.h rfl (fun _ => rfl) ?_)
  refine VC.s rfl (RVs.move rfl rfl (fun _ => rfl) ?_)
  refine VC.s rfl (RVs.len_slice rfl UnSl.h rfl (fun _ => rfl) ?_)
  refine VC.s rfl (RVs.bin rfl rfl rfl rfl (fun _ => ⟨⟨rfl, rfl⟩, rfl⟩) ?_)
  refine VC.nil (k3 ⟨27, [(0, _), (1, _), (10, _)]⟩ _ ?_)
  refine CWp.condV rfl (fun hc1 => ?_) (fun hc1 => ?_)
  · try simp at hc1
    refine CWp.seqK fun Kk4 k4 => ?_
    refine CWp.regionW [4] ?_
    refine VC.s rfl (RVs.assign rfl rfl (fun _ => rfl) ?_)
    refine VC.nil (k4 ⟨27, [(4, _)]⟩ _ ?_)
    refine CWp.ret (q _ _ _ (.cons (.tmp rfl) .nil) ?_).1
    exact ⟨by simp [one, show ¬ xs = ys from fun h => hc1 (by rw [h])], (hs0.pre)⟩
  · try simp at hc1
    refine CWp.skip ?_
    refine k2 _ _ ?_
    refine CWp.seqK fun Kk5 k5 => ?_
    refine CWp.seqK fun Kk6 k6 => ?_
    refine CWp.regionW [0, 1, 5] ?_
    refine VC.s rfl (RVs.assign rfl rfl (fun _ => rfl) ?_)
    refine VC.nil (k6 ⟨27, [(0, _), (1, _), (5, _)]⟩ _ ?_)
    refine CWp.block ?_
    refine CWp.loopK (fun n T H' => ∃ i : Nat, T = ⟨27, [(0, .slice aa xs.length ca), (1, .slice ab ys.length cb), (5, .int .i64 (i : Int))]⟩ ∧ n = xs.length - i ∧ (i ≤ xs.length) ∧ (xs.take i = ys.take i) ∧ H <+: H') (n := xs.length) ⟨0, rfl, by first | rfl | simp, by omega, by simp, List.prefix_refl _⟩ ?_
    rintro n T Hl1 Kk7 k7 ⟨i, rfl, hn1, hi, heq, hs1⟩
    have hs2 := Sep.grow hs0 hs1
    have hs3 := Sep.nil (H := Hl1)
    refine CWp.seqK fun Kk8 k8 => ?_
    refine CWp.seqK fun Kk9 k9 => ?_
    refine CWp.regionW [0, 1, 5, 14] ?_
    refine VC.s rfl (RVs.move rfl rfl (fun _ => rfl) ?_)
    refine VC.s rfl (RVs.move rfl rfl (fun _ => rfl) ?_)
    refine VC.s rfl (RVs.len_slice rfl UnSl.h rfl (fun _ => rfl) ?_)
    refine VC.s rfl (RVs.bin rfl rfl rfl rfl (fun _ => ⟨⟨rfl, rfl⟩, rfl⟩) ?_)
    refine VC.nil (k9 ⟨27, [(0, _), (1, _), (5, _), (14, _)]⟩ _ ?_)
    refine CWp.condV rfl (fun hc2 => ?_) (fun hc2 => ?_)
    · try simp at hc2
      refine CWp.skip ?_
      refine k8 _ _ ?_
      refine CWp.seqK fun Kk10 k10 => ?_
      refine CWp.block ?_
      refine CWp.seqK fun Kk11 k11 => ?_
      refine CWp.regionDW [0, 1, 5, 26] [false, false, false, false, false, false, false, false, false, false] (by decide +kernel) ?_
      refine VC.s rfl (RVs.move rfl rfl (fun _ => rfl) ?_)
      refine VC.s rfl (RVs.move rfl rfl (fun _ => rfl) ?_)
      refine VC.s rfl (RVs.indexS rfl (ha.mono (hle (List.IsPrefix.trans hs2.pre (hs3.pre)))) rfl ElemOf.h rfl (fun _ => ⟨⟨rfl, rfl⟩, by omega, by omega⟩) ?_)
      intro id1 j1 u1 B1 e1
      obtain ⟨y1, hy1, e1⟩ := e1 rfl
      try simp only [Int.toNat_natCast] at hy1
      obtain ⟨rfl, hwy1⟩ := e1.r
      refine VC.s rfl (RVs.loadE (k := kTomb) rfl TyOf.h rfl (fun _ => ⟨rfl, e1⟩) ?_)
      refine VC.s rfl (RVs.move rfl rfl (fun _ => rfl) ?_)
      refine VC.s rfl (RVs.move rfl rfl (fun _ => rfl) ?_)
      refine VC.s rfl (RVs.indexS rfl (hb.mono (hle (List.IsPrefix.trans hs2.pre (hs3.pre)))) rfl ElemOf.h rfl (fun _ => ⟨⟨rfl, rfl⟩, by omega, by omega⟩) ?_)
      intro id2 j2 u2 B2 e2
      obtain ⟨y2, hy2, e2⟩ := e2 rfl
      try simp only [Int.toNat_natCast] at hy2
      obtain ⟨rfl, hwy2⟩ := e2.r
      refine VC.s rfl (RVs.loadE (k := kTomb) rfl TyOf.h rfl (fun _ => ⟨rfl, e2⟩) ?_)
      refine VC.s rfl (RVs.callp rfl rfl rfl (fun _ => ⟨⟨rfl, rfl⟩, eqTomb _ _ _ ⟩) ?_)
      refine VC.s rfl (RVs.not rfl rfl (fun _ => rfl) ?_)
      refine VC.nil (k11 ⟨27, [(0, _), (1, _), (5, _), (26, _)]⟩ _ ?_)
      refine CWp.condV rfl (fun hc3 => ?_) (fun hc3 => ?_)
      · try simp at hc3
        refine CWp.seqK fun Kk12 k12 => ?_
        refine CWp.regionW [4] ?_
        refine VC.s rfl (RVs.assign rfl rfl (fun _ => rfl) ?_)
        refine VC.nil (k12 ⟨27, [(4, _)]⟩ _ ?_)
        refine CWp.ret (q _ _ _ (.cons (.tmp rfl) .nil) ?_).1
        exact ⟨by simp [one, ne_at hy1 hy2 hc3], (List.IsPrefix.trans hs2.pre (hs3.pre))⟩
      · try simp at hc3
        refine CWp.skip ?_
        refine k10 _ _ ?_
        refine CWp.regionW [0, 1, 5] ?_
        refine VC.s rfl (RVs.move rfl rfl (fun _ => rfl) ?_)
        refine VC.s rfl (RVs.arith (r := ((i + 1 : Nat) : Int)) rfl rfl rfl (by (try simp only [bl_bs]); first | exact wrap_in (by omega) | (rw [wrap_in (by omega)]; omega)) rfl (fun _ => ⟨⟨rfl, rfl⟩, rfl⟩) ?_)
        refine VC.s rfl (RVs.assign rfl rfl (fun _ => rfl) ?_)
        refine VC.nil (k7 _ ⟨27, [(0, _), (1, _), (5, _)]⟩ _ ?_ ⟨i + 1, rfl, rfl, by omega, take_succ heq hy1 hy2 hc3, List.IsPrefix.trans hs1 hs3.pre⟩)
        omega
    · try simp at hc2
      refine CWp.exit ?_
      refine k5 _ _ ?_
      refine CWp.seqK fun Kk13 k13 => ?_
      refine CWp.regionW [4] ?_
      refine VC.s rfl (RVs.assign rfl rfl (fun _ => rfl) ?_)
      refine VC.nil (k13 ⟨27, [(4, _)]⟩ _ ?_)
      refine CWp.ret (q _ _ _ (.cons (.tmp rfl) .nil) ?_).1
      exact ⟨by simp [one, take_all heq (by omega) (by omega)], (List.IsPrefix.trans hs2.pre (hs3.pre))⟩

theorem eqBox (x y : Box) (x_mails x_tombs y_mails y_tombs : Value) (H : AH) (hS_x_mails : kMail.S H x_mails x.mails) (hS_y_mails : kMail.S H y_mails y.mails) (hS_x_tombs : kTomb.S H x_tombs x.tombs) (hS_y_tombs : kTomb.S H y_tombs y.tombs) : FWp Try.prog 24 [.agg #[.string (bs x.name), .int .i64 x.valid, .int .i64 x.next, .int .i64 x.mod, x_mails, x_tombs, .int .i64 x.horizon], .agg #[.string (bs y.name), .int .i64 y.valid, .int .i64 y.next, .int .i64 y.mod, y_mails, y_tombs, .int .i64 y.horizon]] H (fun v' H' => v' = .bool (decide (x = y)) ∧ H' = H) := by
  refine FWp.pure rfl fun H ph => ?_
  replace hS_x_mails := hS_x_mails.mono (hle ph)
  replace hS_x_tombs := hS_x_tombs.mono (hle ph)
  replace hS_y_mails := hS_y_mails.mono (hle ph)
  replace hS_y_tombs := hS_y_tombs.mono (hle ph)
  refine FWp.enterK Try.func24 rfl (by decide +kernel) rfl rfl fun Q q => ?_
  have hs0 := Sep.nil (H := H)
  refine CWp.seqK fun Kk1 k1 => ?_
  refine CWp.regionW [2, 3] ?_
  refine VC.s rfl (RVs.box rfl TyOf.h rfl rfl rfl ?_)
  intro b1 H1 g1 l1 a1
  have hs1 := Sep.addB hs0 g1 l1 a1
  refine VC.s rfl (RVs.box rfl TyOf.h rfl rfl rfl ?_)
  intro b2 H2 g2 l2 a2
  have hs2 := Sep.addB hs1 g2 l2 a2
  refine VC.s rfl (RVs.assign rfl rfl (fun _ => rfl) ?_)
  refine VC.nil (k1 ⟨42, [(2, _), (3, _)]⟩ _ ?_)
  refine CWp.seqK fun Kk2 k2 => ?_
  refine CWp.seqK fun Kk3 k3 => ?_
  refine CWp.regionW [2, 3, 9] ?_
  refine VC.s rfl (RVs.fieldAddr rfl FieldOf.h (by decide) rfl (fun _ => rfl) ?_)
  refine VC.s rfl (RVs.load rfl TyOf.h rfl (fun _ => ⟨rfl, (Sep.at_ (i := 1) hs2 rfl), rw_live, rfl⟩) ?_)
  refine VC.s rfl (RVs.fieldAddr rfl FieldOf.h (by decide) rfl (fun _ => rfl) ?_)
  refine VC.s rfl (RVs.load rfl TyOf.h rfl (fun _ => ⟨rfl, (Sep.at_ (i := 0) hs2 rfl), rw_live, rfl⟩) ?_)
  refine VC.s rfl (RVs.bin rfl rfl rfl rfl (fun _ => ⟨⟨rfl, rfl⟩, trivial⟩) ?_)
  refine VC.nil (k3 ⟨42, [(2, _), (3, _), (9, _)]⟩ _ ?_)
  refine CWp.condV rfl (fun hc1 => ?_) (fun hc1 => ?_)
  · try simp at hc1
    refine CWp.seqK fun Kk4 k4 => ?_
    refine CWp.regionW [4] ?_
    refine VC.s rfl (RVs.assign rfl rfl (fun _ => rfl) ?_)
    refine VC.nil (k4 ⟨42, [(4, _)]⟩ _ ?_)
    refine CWp.ret (q _ _ _ (.cons (.tmp rfl) .nil) ?_).1
    exact ⟨by simp [one, show ¬ x = y from fun h => hc1 (by rw [h])], (hs2.pre)⟩
  · try simp at hc1
    refine CWp.skip ?_
    refine k2 _ _ ?_
    refine CWp.seqK fun Kk5 k5 => ?_
    refine CWp.seqK fun Kk6 k6 => ?_
    refine CWp.regionW [2, 3, 14] ?_
    refine VC.s rfl (RVs.fieldAddr rfl FieldOf.h (by decide) rfl (fun _ => rfl) ?_)
    refine VC.s rfl (RVs.load rfl TyOf.h rfl (fun _ => ⟨rfl, (Sep.at_ (i := 1) hs2 rfl), rw_live, rfl⟩) ?_)
    refine VC.s rfl (RVs.fieldAddr rfl FieldOf.h (by decide) rfl (fun _ => rfl) ?_)
    refine VC.s rfl (RVs.load rfl TyOf.h rfl (fun _ => ⟨rfl, (Sep.at_ (i := 0) hs2 rfl), rw_live, rfl⟩) ?_)
    refine VC.s rfl (RVs.bin rfl rfl rfl rfl (fun _ => ⟨⟨rfl, rfl⟩, rfl⟩) ?_)
    refine VC.nil (k6 ⟨42, [(2, _), (3, _), (14, _)]⟩ _ ?_)
    refine CWp.condV rfl (fun hc2 => ?_) (fun hc2 => ?_)
    · try simp at hc2
      refine CWp.seqK fun Kk7 k7 => ?_
      refine CWp.regionW [4] ?_
      refine VC.s rfl (RVs.assign rfl rfl (fun _ => rfl) ?_)
      refine VC.nil (k7 ⟨42, [(4, _)]⟩ _ ?_)
      refine CWp.ret (q _ _ _ (.cons (.tmp rfl) .nil) ?_).1
      exact ⟨by simp [one, show ¬ x = y from fun h => hc2 (by rw [h])], (hs2.pre)⟩
    · try simp at hc2
      refine CWp.skip ?_
      refine k5 _ _ ?_
      refine CWp.seqK fun Kk8 k8 => ?_
      refine CWp.seqK fun Kk9 k9 => ?_
      refine CWp.regionW [2, 3, 19] ?_
      refine VC.s rfl (RVs.fieldAddr rfl FieldOf.h (by decide) rfl (fun _ => rfl) ?_)
      refine VC.s rfl (RVs.load rfl TyOf.h rfl (fun _ => ⟨rfl, (Sep.at_ (i := 1) hs2 rfl), rw_live, rfl⟩) ?_)
      refine VC.s rfl (RVs.fieldAddr rfl FieldOf.h (by decide) rfl (fun _ => rfl) ?_)
      refine VC.s rfl (RVs.load rfl TyOf.h rfl (fun _ => ⟨rfl, (Sep.at_ (i := 0) hs2 rfl), rw_live, rfl⟩) ?_)
      refine VC.s rfl (RVs.bin rfl rfl rfl rfl (fun _ => ⟨⟨rfl, rfl⟩, rfl⟩) ?_)
      refine VC.nil (k9 ⟨42, [(2, _), (3, _), (19, _)]⟩ _ ?_)
      refine CWp.condV rfl (fun hc3 => ?_) (fun hc3 => ?_)
      · try simp at hc3
        refine CWp.seqK fun Kk10 k10 => ?_
        refine CWp.regionW [4] ?_
        refine VC.s rfl (RVs.assign rfl rfl (fun _ => rfl) ?_)
        refine VC.nil (k10 ⟨42, [(4, _)]⟩ _ ?_)
        refine CWp.ret (q _ _ _ (.cons (.tmp rfl) .nil) ?_).1
        exact ⟨by simp [one, show ¬ x = y from fun h => hc3 (by rw [h])], (hs2.pre)⟩
      · try simp at hc3
        refine CWp.skip ?_
        refine k8 _ _ ?_
        refine CWp.seqK fun Kk11 k11 => ?_
        refine CWp.seqK fun Kk12 k12 => ?_
        refine CWp.regionW [2, 3, 24] ?_
        refine VC.s rfl (RVs.fieldAddr rfl FieldOf.h (by decide) rfl (fun _ => rfl) ?_)
        refine VC.s rfl (RVs.load rfl TyOf.h rfl (fun _ => ⟨rfl, (Sep.at_ (i := 1) hs2 rfl), rw_live, rfl⟩) ?_)
        refine VC.s rfl (RVs.fieldAddr rfl FieldOf.h (by decide) rfl (fun _ => rfl) ?_)
        refine VC.s rfl (RVs.load rfl TyOf.h rfl (fun _ => ⟨rfl, (Sep.at_ (i := 0) hs2 rfl), rw_live, rfl⟩) ?_)
        refine VC.s rfl (RVs.bin rfl rfl rfl rfl (fun _ => ⟨⟨rfl, rfl⟩, rfl⟩) ?_)
        refine VC.nil (k12 ⟨42, [(2, _), (3, _), (24, _)]⟩ _ ?_)
        refine CWp.condV rfl (fun hc4 => ?_) (fun hc4 => ?_)
        · try simp at hc4
          refine CWp.seqK fun Kk13 k13 => ?_
          refine CWp.regionW [4] ?_
          refine VC.s rfl (RVs.assign rfl rfl (fun _ => rfl) ?_)
          refine VC.nil (k13 ⟨42, [(4, _)]⟩ _ ?_)
          refine CWp.ret (q _ _ _ (.cons (.tmp rfl) .nil) ?_).1
          exact ⟨by simp [one, show ¬ x = y from fun h => hc4 (by rw [h])], (hs2.pre)⟩
        · try simp at hc4
          refine CWp.skip ?_
          refine k11 _ _ ?_
          refine CWp.seqK fun Kk14 k14 => ?_
          refine CWp.seqK fun Kk15 k15 => ?_
          refine CWp.regionW [2, 3, 30] ?_
          refine VC.s rfl (RVs.fieldAddr rfl FieldOf.h (by decide) rfl (fun _ => rfl) ?_)
          refine VC.s rfl (RVs.load rfl TyOf.h rfl (fun _ => ⟨rfl, (Sep.at_ (i := 1) hs2 rfl), rw_live, rfl⟩) ?_)
          refine VC.s rfl (RVs.fieldAddr rfl FieldOf.h (by decide) rfl (fun _ => rfl) ?_)
          refine VC.s rfl (RVs.load rfl TyOf.h rfl (fun _ => ⟨rfl, (Sep.at_ (i := 0) hs2 rfl), rw_live, rfl⟩) ?_)
          refine VC.s rfl (RVs.callp rfl rfl rfl (fun _ => ⟨⟨rfl, rfl⟩, eqMailS _ _ _ _ _ (hS_x_mails.mono (hle (hs2.pre))) (hS_y_mails.mono (hle (hs2.pre)))⟩) ?_)
          refine VC.s rfl (RVs.not rfl rfl (fun _ => rfl) ?_)
          refine VC.nil (k15 ⟨42, [(2, _), (3, _), (30, _)]⟩ _ ?_)
          refine CWp.condV rfl (fun hc5 => ?_) (fun hc5 => ?_)
          · try simp at hc5
            refine CWp.seqK fun Kk16 k16 => ?_
            refine CWp.regionW [4] ?_
            refine VC.s rfl (RVs.assign rfl rfl (fun _ => rfl) ?_)
            refine VC.nil (k16 ⟨42, [(4, _)]⟩ _ ?_)
            refine CWp.ret (q _ _ _ (.cons (.tmp rfl) .nil) ?_).1
            exact ⟨by simp [one, show ¬ x = y from fun h => hc5 (by rw [h])], (hs2.pre)⟩
          · try simp at hc5
            refine CWp.skip ?_
            refine k14 _ _ ?_
            refine CWp.seqK fun Kk17 k17 => ?_
            refine CWp.seqK fun Kk18 k18 => ?_
            refine CWp.regionW [2, 3, 36] ?_
            refine VC.s rfl (RVs.fieldAddr rfl FieldOf.h (by decide) rfl (fun _ => rfl) ?_)
            refine VC.s rfl (RVs.load rfl TyOf.h rfl (fun _ => ⟨rfl, (Sep.at_ (i := 1) hs2 rfl), rw_live, rfl⟩) ?_)
            refine VC.s rfl (RVs.fieldAddr rfl FieldOf.h (by decide) rfl (fun _ => rfl) ?_)
            refine VC.s rfl (RVs.load rfl TyOf.h rfl (fun _ => ⟨rfl, (Sep.at_ (i := 0) hs2 rfl), rw_live, rfl⟩) ?_)
            refine VC.s rfl (RVs.callp rfl rfl rfl (fun _ => ⟨⟨rfl, rfl⟩, eqTombS _ _ _ _ _ (hS_x_tombs.mono (hle (hs2.pre))) (hS_y_tombs.mono (hle (hs2.pre)))⟩) ?_)
            refine VC.s rfl (RVs.not rfl rfl (fun _ => rfl) ?_)
            refine VC.nil (k18 ⟨42, [(2, _), (3, _), (36, _)]⟩ _ ?_)
            refine CWp.condV rfl (fun hc6 => ?_) (fun hc6 => ?_)
            · try simp at hc6
              refine CWp.seqK fun Kk19 k19 => ?_
              refine CWp.regionW [4] ?_
              refine VC.s rfl (RVs.assign rfl rfl (fun _ => rfl) ?_)
              refine VC.nil (k19 ⟨42, [(4, _)]⟩ _ ?_)
              refine CWp.ret (q _ _ _ (.cons (.tmp rfl) .nil) ?_).1
              exact ⟨by simp [one, show ¬ x = y from fun h => hc6 (by rw [h])], (hs2.pre)⟩
            · try simp at hc6
              refine CWp.skip ?_
              refine k17 _ _ ?_
              refine CWp.seqK fun Kk20 k20 => ?_
              refine CWp.seqK fun Kk21 k21 => ?_
              refine CWp.regionW [41] ?_
              refine VC.s rfl (RVs.fieldAddr rfl FieldOf.h (by decide) rfl (fun _ => rfl) ?_)
              refine VC.s rfl (RVs.load rfl TyOf.h rfl (fun _ => ⟨rfl, (Sep.at_ (i := 1) hs2 rfl), rw_live, rfl⟩) ?_)
              refine VC.s rfl (RVs.fieldAddr rfl FieldOf.h (by decide) rfl (fun _ => rfl) ?_)
              refine VC.s rfl (RVs.load rfl TyOf.h rfl (fun _ => ⟨rfl, (Sep.at_ (i := 0) hs2 rfl), rw_live, rfl⟩) ?_)
              refine VC.s rfl (RVs.bin rfl rfl rfl rfl (fun _ => ⟨⟨rfl, rfl⟩, rfl⟩) ?_)
              refine VC.nil (k21 ⟨42, [(41, _)]⟩ _ ?_)
              refine CWp.condV rfl (fun hc7 => ?_) (fun hc7 => ?_)
              · try simp at hc7
                refine CWp.seqK fun Kk22 k22 => ?_
                refine CWp.regionW [4] ?_
                refine VC.s rfl (RVs.assign rfl rfl (fun _ => rfl) ?_)
                refine VC.nil (k22 ⟨42, [(4, _)]⟩ _ ?_)
                refine CWp.ret (q _ _ _ (.cons (.tmp rfl) .nil) ?_).1
                exact ⟨by simp [one, show ¬ x = y from fun h => hc7 (by rw [h])], (hs2.pre)⟩
              · try simp at hc7
                refine CWp.skip ?_
                refine k20 _ _ ?_
                refine CWp.seqK fun Kk23 k23 => ?_
                refine CWp.regionW [4] ?_
                refine VC.s rfl (RVs.assign rfl rfl (fun _ => rfl) ?_)
                refine VC.nil (k23 ⟨42, [(4, _)]⟩ _ ?_)
                refine CWp.ret (q _ _ _ (.cons (.tmp rfl) .nil) ?_).1
                exact ⟨by cases x; cases y; simp_all [one], (hs2.pre)⟩

end Go.Proofs.Ytaccaelocddakaa
