/- The walks of the functions that look at the words of a command. -/
import Derived.Test.YtaccaelocddakaaDoorDC0
import Derived.Test.YtaccaelocddakaaDoorAK
namespace Go.Proofs.YtaccaelocddakaaDoor
open Go Go.RowKit
set_option linter.unusedVariables false
set_option maxRecDepth 20000

variable [MLen]
theorem l01In (x a b : Int) (H : AH) : FWp Tryd.prog 27 [.int .i64 x, .int .i64 a, .int .i64 b] H (fun v' H' => v' = .bool (decide (a ≤ x ∧ x ≤ b)) ∧ H' = H) := by
  refine FWp.pure rfl fun H ph => ?_
  refine FWp.enterK Tryd.func27 rfl (by decide +kernel) rfl rfl fun Q q => ?_
  refine CWp.seqK fun Kk1 k1 => ?_
  refine CWp.regionW [0, 1, 2] ?_
  refine VC.s rfl (RVs.assign rfl rfl (fun _ => rfl) ?_)
  refine VC.nil (k1 ⟨15, [(0, _), (1, _), (2, _)]⟩ _ ?_)
  refine CWp.seqK fun Kk2 k2 => ?_
  refine CWp.regionW [6] ?_
  refine VC.s rfl (RVs.move rfl rfl (fun _ => rfl) ?_)
  refine VC.s rfl (RVs.move rfl rfl (fun _ => rfl) ?_)
  refine VC.s rfl (RVs.bin rfl rfl rfl rfl (fun _ => ⟨⟨rfl, rfl⟩, rfl⟩) ?_)
  refine VC.s rfl (RVs.move rfl rfl (fun _ => rfl) ?_)
  refine VC.s rfl (RVs.move rfl rfl (fun hg => (by first | rfl | exact hg | (simp_all [GF.cond, GF.conds, GF.get, GF.put, AF.toG]))) ?_)
  refine VC.s rfl (RVs.move rfl rfl (fun hg => (by first | rfl | exact hg | (simp_all [GF.cond, GF.conds, GF.get, GF.put, AF.toG]))) ?_)
  refine VC.s rfl (RVs.bin rfl rfl rfl rfl (fun hg => ⟨⟨(by first | rfl | exact hg | (simp_all [GF.cond, GF.conds, GF.get, GF.put, AF.toG])), (by first | rfl | exact hg | (simp_all [GF.cond, GF.conds, GF.get, GF.put, AF.toG]))⟩, rfl⟩) ?_)
  refine VC.s rfl (RVs.pick rfl rfl rfl rfl (fun hg => ⟨rfl, fun hh => by first | rfl | exact pk_t hh rfl | exact pk_t hh hg, fun hh => by first | rfl | exact pk_f hh rfl | exact pk_f hh hg⟩) ?_)
  refine VC.s rfl (RVs.assign rfl rfl (fun _ => rfl) ?_)
  refine VC.nil (k2 ⟨15, [(6, _)]⟩ _ ?_)
  refine CWp.ret (q _ _ _ (.cons (.tmp rfl) .nil) ?_).1
  exact ⟨by simp [one], (List.prefix_refl H)⟩

theorem within (x a b : Int) (H : AH) : FWp Tryd.prog 29 [.int .i64 x, .int .i64 a, .int .i64 b] H (fun v' H' => v' = .bool (decide (a ≤ x ∧ x ≤ b)) ∧ H' = H) := by
  refine FWp.pure rfl fun H ph => ?_
  refine FWp.enterK Tryd.func29 rfl (by decide +kernel) rfl rfl fun Q q => ?_
  refine CWp.seqK fun Kk1 k1 => ?_
  refine CWp.regionW [0, 1, 2] ?_
  refine VC.s rfl (RVs.assign rfl rfl (fun _ => rfl) ?_)
  refine VC.nil (k1 ⟨15, [(0, _), (1, _), (2, _)]⟩ _ ?_)
  refine CWp.seqK fun Kk2 k2 => ?_
  refine CWp.regionW [6] ?_
  refine VC.s rfl (RVs.move rfl rfl (fun _ => rfl) ?_)
  refine VC.s rfl (RVs.move rfl rfl (fun _ => rfl) ?_)
  refine VC.s rfl (RVs.bin rfl rfl rfl rfl (fun _ => ⟨⟨rfl, rfl⟩, rfl⟩) ?_)
  refine VC.s rfl (RVs.move rfl rfl (fun _ => rfl) ?_)
  refine VC.s rfl (RVs.move rfl rfl (fun hg => (by first | rfl | exact hg | (simp_all [GF.cond, GF.conds, GF.get, GF.put, AF.toG]))) ?_)
  refine VC.s rfl (RVs.move rfl rfl (fun hg => (by first | rfl | exact hg | (simp_all [GF.cond, GF.conds, GF.get, GF.put, AF.toG]))) ?_)
  refine VC.s rfl (RVs.bin rfl rfl rfl rfl (fun hg => ⟨⟨(by first | rfl | exact hg | (simp_all [GF.cond, GF.conds, GF.get, GF.put, AF.toG])), (by first | rfl | exact hg | (simp_all [GF.cond, GF.conds, GF.get, GF.put, AF.toG]))⟩, rfl⟩) ?_)
  refine VC.s rfl (RVs.pick rfl rfl rfl rfl (fun hg => ⟨rfl, fun hh => by first | rfl | exact pk_t hh rfl | exact pk_t hh hg, fun hh => by first | rfl | exact pk_f hh rfl | exact pk_f hh hg⟩) ?_)
  refine VC.s rfl (RVs.assign rfl rfl (fun _ => rfl) ?_)
  refine VC.nil (k2 ⟨15, [(6, _)]⟩ _ ?_)
  refine CWp.ret (q _ _ _ (.cons (.tmp rfl) .nil) ?_).1
  exact ⟨by simp [one], (List.prefix_refl H)⟩

theorem l15Byte (c : UInt8) (H : AH) : FWp Tryd.prog 65 [.int .u8 (c.toNat : Int)] H (fun v' H' => v' = .bool (plainB c) ∧ H' = H) := by
  refine FWp.pure rfl fun H ph => ?_
  refine FWp.enterK Tryd.func65 rfl (by decide +kernel) rfl rfl fun Q q => ?_
  have hs0 := Sep.nil (H := H)
  refine CWp.seqK fun Kk1 k1 => ?_
  refine CWp.regionW [0] ?_
  refine VC.s rfl (RVs.assign rfl rfl (fun _ => rfl) ?_)
  refine VC.nil (k1 ⟨29, [(0, _)]⟩ _ ?_)
  refine CWp.seqK fun Kk2 k2 => ?_
  refine CWp.regionW [2] ?_
  refine VC.s rfl (RVs.move rfl rfl (fun _ => rfl) ?_)
  refine VC.s rfl (RVs.bin rfl rfl rfl rfl (fun _ => ⟨⟨rfl, rfl⟩, rfl⟩) ?_)
  refine VC.s rfl (RVs.move rfl rfl (fun _ => rfl) ?_)
  refine VC.s rfl (RVs.move rfl rfl (fun hg => rfl) ?_)
  refine VC.s rfl (RVs.bin rfl rfl rfl rfl (fun hg => ⟨⟨hg, rfl⟩, rfl⟩) ?_)
  refine VC.s rfl (RVs.pick rfl rfl rfl rfl (fun hg => ⟨rfl, fun hh => pk_t hh rfl, fun _ => rfl⟩) ?_)
  refine VC.s rfl (RVs.move rfl rfl (fun _ => rfl) ?_)
  refine VC.s rfl (RVs.move rfl rfl (fun hg => rfl) ?_)
  refine VC.s rfl (RVs.bin rfl rfl rfl rfl (fun hg => ⟨⟨hg, rfl⟩, rfl⟩) ?_)
  refine VC.s rfl (RVs.pick rfl rfl rfl rfl (fun hg => ⟨rfl, fun hh => pk_t hh rfl, fun _ => rfl⟩) ?_)
  refine VC.s rfl (RVs.move rfl rfl (fun _ => rfl) ?_)
  refine VC.s rfl (RVs.move rfl rfl (fun hg => rfl) ?_)
  refine VC.s rfl (RVs.bin rfl rfl rfl rfl (fun hg => ⟨⟨hg, rfl⟩, rfl⟩) ?_)
  refine VC.s rfl (RVs.pick rfl rfl rfl rfl (fun hg => ⟨rfl, fun hh => pk_t hh rfl, fun _ => rfl⟩) ?_)
  refine VC.s rfl (RVs.move rfl rfl (fun _ => rfl) ?_)
  refine VC.s rfl (RVs.move rfl rfl (fun hg => rfl) ?_)
  refine VC.s rfl (RVs.bin rfl rfl rfl rfl (fun hg => ⟨⟨hg, rfl⟩, rfl⟩) ?_)
  refine VC.s rfl (RVs.pick rfl rfl rfl rfl (fun hg => ⟨rfl, fun hh => pk_t hh rfl, fun _ => rfl⟩) ?_)
  refine VC.s rfl (RVs.move rfl rfl (fun _ => rfl) ?_)
  refine VC.s rfl (RVs.move rfl rfl (fun hg => rfl) ?_)
  refine VC.s rfl (RVs.bin rfl rfl rfl rfl (fun hg => ⟨⟨hg, rfl⟩, rfl⟩) ?_)
  refine VC.s rfl (RVs.pick rfl rfl rfl rfl (fun hg => ⟨rfl, fun hh => pk_t hh rfl, fun _ => rfl⟩) ?_)
  refine VC.s rfl (RVs.move rfl rfl (fun _ => rfl) ?_)
  refine VC.s rfl (RVs.move rfl rfl (fun hg => rfl) ?_)
  refine VC.s rfl (RVs.bin rfl rfl rfl rfl (fun hg => ⟨⟨hg, rfl⟩, rfl⟩) ?_)
  refine VC.s rfl (RVs.pick rfl rfl rfl rfl (fun hg => ⟨rfl, fun hh => pk_t hh rfl, fun _ => rfl⟩) ?_)
  refine VC.s rfl (RVs.assign rfl rfl (fun _ => rfl) ?_)
  refine VC.nil (k2 ⟨29, [(2, _)]⟩ _ ?_)
  refine CWp.ret (q _ _ _ (.cons (.tmp rfl) .nil) ?_).1
  exact ⟨by simp only [one]; refine congrArg Value.bool ?_; rw [Bool.eq_iff_iff]; simp [plainB, condF]; omega, (hs0.pre)⟩

theorem isPlainByte (c : UInt8) (H : AH) : FWp Tryd.prog 66 [.int .u8 (c.toNat : Int)] H (fun v' H' => v' = .bool (plainB c) ∧ H' = H) := by
  refine FWp.pure rfl fun H ph => ?_
  refine FWp.enterK Tryd.func66 rfl (by decide +kernel) rfl rfl fun Q q => ?_
  have hs0 := Sep.nil (H := H)
  refine CWp.seqK fun Kk1 k1 => ?_
  refine CWp.regionW [0] ?_
  refine VC.s rfl (RVs.assign rfl rfl (fun _ => rfl) ?_)
  refine VC.nil (k1 ⟨11, [(0, _)]⟩ _ ?_)
  refine CWp.seqK fun Kk2 k2 => ?_
  refine CWp.regionW [2] ?_
  refine VC.s rfl (RVs.move rfl rfl (fun _ => rfl) ?_)
  refine VC.s rfl (RVs.conv_intR (r := (c.toNat : Int)) rfl UnInt.h UnInt.h (wrap_in (by have := u8_lt c; omega)) rfl (fun _ => rfl) ?_)
  refine VC.s rfl (RVs.callp rfl rfl rfl (fun _ => ⟨⟨rfl, rfl⟩, within _ _ _ _⟩) ?_)
  refine VC.s rfl (RVs.move rfl rfl (fun _ => rfl) ?_)
  refine VC.s rfl (RVs.move rfl rfl (fun hg => rfl) ?_)
  refine VC.s rfl (RVs.callp rfl rfl rfl (fun hg => ⟨⟨rfl, (GF.conds_cons rfl (GF.conds_cons hg rfl))⟩, indexByte [34, 92, 40, 41, 123] c _⟩) ?_)
  refine VC.s rfl (RVs.bin rfl rfl rfl rfl (fun hg => ⟨⟨hg, rfl⟩, rfl⟩) ?_)
  refine VC.s rfl (RVs.pick rfl rfl rfl rfl (fun hg => ⟨rfl, fun hh => pk_t hh rfl, fun _ => rfl⟩) ?_)
  refine VC.s rfl (RVs.assign rfl rfl (fun _ => rfl) ?_)
  refine VC.nil (k2 ⟨11, [(2, _)]⟩ _ ?_)
  refine CWp.ret (q _ _ _ (.cons (.tmp rfl) .nil) ?_).1
  exact ⟨by simp only [one]; rw [plainB_ib], (hs0.pre)⟩

theorem l15Plain (s : List UInt8) (H : AH) (hs : s.length ≤ lim) : FWp Tryd.prog 50 [.string (bs s)] H (fun v' H' => v' = .bool (plainW s) ∧ H' = H) := by
  refine FWp.pure rfl fun H ph => ?_
  unfold lim at hs
  refine FWp.enterK Tryd.func50 rfl (by decide +kernel) rfl rfl fun Q q => ?_
  have hs0 := Sep.nil (H := H)
  refine CWp.seqK fun Kk1 k1 => ?_
  refine CWp.regionW [0] ?_
  refine VC.s rfl (RVs.assign rfl rfl (fun _ => rfl) ?_)
  refine VC.nil (k1 ⟨18, [(0, _)]⟩ _ ?_)
  refine CWp.seqK fun Kk2 k2 => ?_
  refine CWp.seqK fun Kk3 k3 => ?_
  refine CWp.regionW [0, 3] ?_
  refine VC.s rfl (RVs.assign rfl rfl (fun _ => rfl) ?_)
  refine VC.nil (k3 ⟨18, [(0, _), (3, _)]⟩ _ ?_)
  refine CWp.block ?_
  refine CWp.loopK (fun n T H' => ∃ i : Nat, T = ⟨18, [(0, .string (bs s)), (3, .int .i64 (i : Int))]⟩ ∧ n = s.length - i ∧ (i ≤ s.length) ∧ ((s.take i).all plainB = true) ∧ H <+: H') (n := s.length) ⟨0, by first | rfl | (simp; done), by first | rfl | simp, by omega, by simp, List.prefix_refl _⟩ ?_
  rintro n T Hl1 Kk4 k4 ⟨i, rfl, hn1, hi, ha, hs1⟩
  have hs2 := Sep.grow hs0 hs1
  have hs3 := Sep.nil (H := Hl1)
  refine CWp.seqK fun Kk5 k5 => ?_
  refine CWp.seqK fun Kk6 k6 => ?_
  refine CWp.regionW [0, 3, 7] ?_
  refine VC.s rfl (RVs.move rfl rfl (fun _ => rfl) ?_)
  refine VC.s rfl (RVs.move rfl rfl (fun _ => rfl) ?_)
  refine VC.s rfl (RVs.len_string rfl UnStr.h rfl (fun _ => rfl) ?_)
  refine VC.s rfl (RVs.bin rfl rfl rfl rfl (fun _ => ⟨⟨rfl, rfl⟩, rfl⟩) ?_)
  refine VC.nil (k6 ⟨18, [(0, _), (3, _), (7, _)]⟩ _ ?_)
  refine CWp.condV rfl (fun hc1 => ?_) (fun hc1 => ?_)
  · have hlt : i < s.length := by first | exact_mod_cast hc1 | (have h9 := hc1; simp at h9; omega)
    refine CWp.skip ?_
    refine k5 _ _ ?_
    refine CWp.seqK fun Kk7 k7 => ?_
    refine CWp.block ?_
    refine CWp.seqK fun Kk8 k8 => ?_
    refine CWp.regionW [0, 3, 14] ?_
    refine VC.s rfl (RVs.move rfl rfl (fun _ => rfl) ?_)
    refine VC.s rfl (RVs.move rfl rfl (fun _ => rfl) ?_)
    refine VC.s rfl (RVs.index rfl rfl UnStr.h rfl (fun _ => ⟨⟨rfl, rfl⟩, by omega, by simp; omega⟩) ?_)
    refine VC.s rfl (RVs.callp rfl rfl rfl (fun _ => ⟨⟨rfl, rfl⟩, l15Byte (s.getD i 0) _⟩) ?_)
    refine VC.s rfl (RVs.not rfl rfl (fun _ => rfl) ?_)
    refine VC.nil (k8 ⟨18, [(0, _), (3, _), (14, _)]⟩ _ ?_)
    refine CWp.condV rfl (fun hc2 => ?_) (fun hc2 => ?_)
    · rw [gD hlt] at hc2
      have hb : plainB s[i] = false := by simpa using hc2
      refine CWp.seqK fun Kk9 k9 => ?_
      refine CWp.regionW [2] ?_
      refine VC.s rfl (RVs.assign rfl rfl (fun _ => rfl) ?_)
      refine VC.nil (k9 ⟨18, [(2, _)]⟩ _ ?_)
      refine CWp.ret (q _ _ _ (.cons (.tmp rfl) .nil) ?_).1
      exact ⟨by simp only [one]; rw [plainW_bad hlt hb], (List.IsPrefix.trans hs2.pre (hs3.pre))⟩
    · rw [gD hlt] at hc2
      have hb : plainB s[i] = true := by simpa using hc2
      refine CWp.skip ?_
      refine k7 _ _ ?_
      refine CWp.regionW [0, 3] ?_
      refine VC.s rfl (RVs.move rfl rfl (fun _ => rfl) ?_)
      refine VC.s rfl (RVs.arith (r := ((i + 1 : Nat) : Int)) rfl rfl rfl (by (try simp only [bl_bs]); first | exact wrap_in (by omega) | (rw [wrap_in (by omega)]; omega)) rfl (fun _ => ⟨⟨rfl, rfl⟩, rfl⟩) ?_)
      refine VC.s rfl (RVs.assign rfl rfl (fun _ => rfl) ?_)
      refine VC.nil (k4 _ ⟨18, [(0, _), (3, _)]⟩ _ ?_ ⟨i + 1, rfl, rfl, by omega, byt_step ha hlt hb, List.IsPrefix.trans hs1 hs3.pre⟩)
      omega
  · have hge : s.length ≤ i := by have h9 := hc1; simp at h9; omega
    refine CWp.exit ?_
    refine k2 _ _ ?_
    refine CWp.seqK fun Kk10 k10 => ?_
    refine CWp.regionW [2] ?_
    refine VC.s rfl (RVs.move rfl rfl (fun _ => rfl) ?_)
    refine VC.s rfl (RVs.len_string rfl UnStr.h rfl (fun _ => rfl) ?_)
    refine VC.s rfl (RVs.callp rfl rfl rfl (fun _ => ⟨⟨rfl, rfl⟩, l01In _ _ _ _⟩) ?_)
    refine VC.s rfl (RVs.assign rfl rfl (fun _ => rfl) ?_)
    refine VC.nil (k10 ⟨18, [(2, _)]⟩ _ ?_)
    refine CWp.ret (q _ _ _ (.cons (.tmp rfl) .nil) ?_).1
    exact ⟨by simp only [one, bl_bs]; rw [plainW_end ha hge], (List.IsPrefix.trans hs2.pre (hs3.pre))⟩

theorem isPlain (s : List UInt8) (H : AH) (hs : s.length ≤ lim) : FWp Tryd.prog 53 [.string (bs s)] H (fun v' H' => v' = .bool (plainW s) ∧ H' = H) := by
  refine FWp.pure rfl fun H ph => ?_
  unfold lim at hs
  refine FWp.enterK Tryd.func53 rfl (by decide +kernel) rfl rfl fun Q q => ?_
  have hs0 := Sep.nil (H := H)
  refine CWp.seqK fun Kk1 k1 => ?_
  refine CWp.regionW [0] ?_
  refine VC.s rfl (RVs.assign rfl rfl (fun _ => rfl) ?_)
  refine VC.nil (k1 ⟨18, [(0, _)]⟩ _ ?_)
  refine CWp.seqK fun Kk2 k2 => ?_
  refine CWp.seqK fun Kk3 k3 => ?_
  refine CWp.regionW [0, 5, 6] ?_
  refine VC.s rfl (RVs.move rfl rfl (fun _ => rfl) ?_)
  refine VC.s rfl (RVs.len_string rfl UnStr.h rfl (fun _ => rfl) ?_)
  refine VC.s rfl (RVs.move rfl rfl (fun _ => rfl) ?_)
  refine VC.nil (k3 ⟨18, [(0, _), (5, _), (6, _)]⟩ _ ?_)
  refine CWp.block ?_
  refine CWp.loopK (fun n T H' => ∃ i : Nat, T = ⟨18, [(0, .string (bs s)), (5, .int .i64 (s.length : Int)), (6, .int .i64 (i : Int))]⟩ ∧ n = s.length - i ∧ (i ≤ s.length) ∧ ((s.take i).all plainB = true) ∧ H <+: H') (n := s.length) ⟨0, by first | rfl | (simp; done), by first | rfl | simp, by omega, by simp, List.prefix_refl _⟩ ?_
  rintro n T Hl1 Kk4 k4 ⟨i, rfl, hn1, hi, ha, hs1⟩
  have hs2 := Sep.grow hs0 hs1
  have hs3 := Sep.nil (H := Hl1)
  refine CWp.seqK fun Kk5 k5 => ?_
  refine CWp.regionW [0, 5, 6, 7] ?_
  refine VC.s rfl (RVs.bin rfl rfl rfl rfl (fun _ => ⟨⟨rfl, rfl⟩, rfl⟩) ?_)
  refine VC.nil (k5 ⟨18, [(0, _), (5, _), (6, _), (7, _)]⟩ _ ?_)
  refine CWp.seqK fun Kk6 k6 => ?_
  refine CWp.condV rfl (fun hc1 => ?_) (fun hc1 => ?_)
  · have hlt : i < s.length := by first | exact_mod_cast hc1 | (have h9 := hc1; simp at h9; omega)
    refine CWp.skip ?_
    refine k6 _ _ ?_
    refine CWp.seqK fun Kk7 k7 => ?_
    refine CWp.block ?_
    refine CWp.seqK fun Kk8 k8 => ?_
    refine CWp.regionW [0, 3, 5, 6] ?_
    refine VC.s rfl (RVs.move rfl rfl (fun _ => rfl) ?_)
    refine VC.s rfl (RVs.assign rfl rfl (fun _ => rfl) ?_)
    refine VC.nil (k8 ⟨18, [(0, _), (3, _), (5, _), (6, _)]⟩ _ ?_)
    refine CWp.seqK fun Kk9 k9 => ?_
    refine CWp.regionW [0, 5, 6, 13] ?_
    refine VC.s rfl (RVs.move rfl rfl (fun _ => rfl) ?_)
    refine VC.s rfl (RVs.move rfl rfl (fun _ => rfl) ?_)
    refine VC.s rfl (RVs.index rfl rfl UnStr.h rfl (fun _ => ⟨⟨rfl, rfl⟩, by omega, by simp; omega⟩) ?_)
    refine VC.s rfl (RVs.callp rfl rfl rfl (fun _ => ⟨⟨rfl, rfl⟩, isPlainByte (s.getD i 0) _⟩) ?_)
    refine VC.s rfl (RVs.not rfl rfl (fun _ => rfl) ?_)
    refine VC.nil (k9 ⟨18, [(0, _), (5, _), (6, _), (13, _)]⟩ _ ?_)
    refine CWp.condV rfl (fun hc2 => ?_) (fun hc2 => ?_)
    · rw [gD hlt] at hc2
      have hb : plainB s[i] = false := by simpa using hc2
      refine CWp.seqK fun Kk10 k10 => ?_
      refine CWp.regionW [2] ?_
      refine VC.s rfl (RVs.assign rfl rfl (fun _ => rfl) ?_)
      refine VC.nil (k10 ⟨18, [(2, _)]⟩ _ ?_)
      refine CWp.ret (q _ _ _ (.cons (.tmp rfl) .nil) ?_).1
      exact ⟨by simp only [one]; rw [plainW_bad hlt hb], (List.IsPrefix.trans hs2.pre (hs3.pre))⟩
    · rw [gD hlt] at hc2
      have hb : plainB s[i] = true := by simpa using hc2
      refine CWp.skip ?_
      refine k7 _ _ ?_
      refine CWp.regionW [0, 5, 6] ?_
      refine VC.s rfl (RVs.arith (r := ((i + 1 : Nat) : Int)) rfl rfl rfl (by (try simp only [bl_bs]); first | exact wrap_in (by omega) | (rw [wrap_in (by omega)]; omega)) rfl (fun _ => ⟨⟨rfl, rfl⟩, rfl⟩) ?_)
      refine VC.s rfl (RVs.move rfl rfl (fun _ => rfl) ?_)
      refine VC.nil (k4 _ ⟨18, [(0, _), (5, _), (6, _)]⟩ _ ?_ ⟨i + 1, rfl, rfl, by omega, byt_step ha hlt hb, List.IsPrefix.trans hs1 hs3.pre⟩)
      omega
  · have hge : s.length ≤ i := by have h9 := hc1; simp at h9; omega
    refine CWp.exit ?_
    refine k2 _ _ ?_
    refine CWp.seqK fun Kk11 k11 => ?_
    refine CWp.regionW [2] ?_
    refine VC.s rfl (RVs.move rfl rfl (fun _ => rfl) ?_)
    refine VC.s rfl (RVs.len_string rfl UnStr.h rfl (fun _ => rfl) ?_)
    refine VC.s rfl (RVs.callp rfl rfl rfl (fun _ => ⟨⟨rfl, rfl⟩, within _ _ _ _⟩) ?_)
    refine VC.s rfl (RVs.assign rfl rfl (fun _ => rfl) ?_)
    refine VC.nil (k11 ⟨18, [(2, _)]⟩ _ ?_)
    refine CWp.ret (q _ _ _ (.cons (.tmp rfl) .nil) ?_).1
    exact ⟨by simp only [one, bl_bs]; rw [plainW_end ha hge], (List.IsPrefix.trans hs2.pre (hs3.pre))⟩

theorem isShown (s : List UInt8) (H : AH) (hs : s.length ≤ lim) : FWp Tryd.prog 55 [.string (bs s)] H (fun v' H' => v' = .bool (s.all shownB) ∧ H' = H) := by
  refine FWp.pure rfl fun H ph => ?_
  unfold lim at hs
  refine FWp.enterK Tryd.func55 rfl (by decide +kernel) rfl rfl fun Q q => ?_
  have hs0 := Sep.nil (H := H)
  refine CWp.seqK fun Kk1 k1 => ?_
  refine CWp.regionW [0] ?_
  refine VC.s rfl (RVs.assign rfl rfl (fun _ => rfl) ?_)
  refine VC.nil (k1 ⟨16, [(0, _)]⟩ _ ?_)
  refine CWp.seqK fun Kk2 k2 => ?_
  refine CWp.seqK fun Kk3 k3 => ?_
  refine CWp.regionW [0, 5, 6] ?_
  refine VC.s rfl (RVs.move rfl rfl (fun _ => rfl) ?_)
  refine VC.s rfl (RVs.len_string rfl UnStr.h rfl (fun _ => rfl) ?_)
  refine VC.s rfl (RVs.move rfl rfl (fun _ => rfl) ?_)
  refine VC.nil (k3 ⟨16, [(0, _), (5, _), (6, _)]⟩ _ ?_)
  refine CWp.block ?_
  refine CWp.loopK (fun n T H' => ∃ i : Nat, T = ⟨16, [(0, .string (bs s)), (5, .int .i64 (s.length : Int)), (6, .int .i64 (i : Int))]⟩ ∧ n = s.length - i ∧ (i ≤ s.length) ∧ ((s.take i).all shownB = true) ∧ H <+: H') (n := s.length) ⟨0, by first | rfl | (simp; done), by first | rfl | simp, by omega, by simp, List.prefix_refl _⟩ ?_
  rintro n T Hl1 Kk4 k4 ⟨i, rfl, hn1, hi, ha, hs1⟩
  have hs2 := Sep.grow hs0 hs1
  have hs3 := Sep.nil (H := Hl1)
  refine CWp.seqK fun Kk5 k5 => ?_
  refine CWp.regionW [0, 5, 6, 7] ?_
  refine VC.s rfl (RVs.bin rfl rfl rfl rfl (fun _ => ⟨⟨rfl, rfl⟩, rfl⟩) ?_)
  refine VC.nil (k5 ⟨16, [(0, _), (5, _), (6, _), (7, _)]⟩ _ ?_)
  refine CWp.seqK fun Kk6 k6 => ?_
  refine CWp.condV rfl (fun hc1 => ?_) (fun hc1 => ?_)
  · have hlt : i < s.length := by first | exact_mod_cast hc1 | (have h9 := hc1; simp at h9; omega)
    refine CWp.skip ?_
    refine k6 _ _ ?_
    refine CWp.seqK fun Kk7 k7 => ?_
    refine CWp.block ?_
    refine CWp.seqK fun Kk8 k8 => ?_
    refine CWp.regionW [0, 3, 5, 6] ?_
    refine VC.s rfl (RVs.move rfl rfl (fun _ => rfl) ?_)
    refine VC.s rfl (RVs.assign rfl rfl (fun _ => rfl) ?_)
    refine VC.nil (k8 ⟨16, [(0, _), (3, _), (5, _), (6, _)]⟩ _ ?_)
    refine CWp.seqK fun Kk9 k9 => ?_
    refine CWp.regionW [0, 5, 6, 14] ?_
    refine VC.s rfl (RVs.move rfl rfl (fun _ => rfl) ?_)
    refine VC.s rfl (RVs.move rfl rfl (fun _ => rfl) ?_)
    refine VC.s rfl (RVs.index rfl rfl UnStr.h rfl (fun _ => ⟨⟨rfl, rfl⟩, by omega, by simp; omega⟩) ?_)
    refine VC.s rfl (RVs.conv_intR (r := (s[i].toNat : Int)) rfl UnInt.h UnInt.h (by rw [bAti hlt]; exact wrap_in (by have := u8_lt s[i]; omega)) rfl (fun _ => rfl) ?_)
    refine VC.s rfl (RVs.callp rfl rfl rfl (fun _ => ⟨⟨rfl, rfl⟩, within _ _ _ _⟩) ?_)
    refine VC.s rfl (RVs.not rfl rfl (fun _ => rfl) ?_)
    refine VC.nil (k9 ⟨16, [(0, _), (5, _), (6, _), (14, _)]⟩ _ ?_)
    refine CWp.condV rfl (fun hc2 => ?_) (fun hc2 => ?_)
    · rw [shownB_i] at hc2
      have hb : shownB s[i] = false := by simpa using hc2
      refine CWp.seqK fun Kk10 k10 => ?_
      refine CWp.regionW [2] ?_
      refine VC.s rfl (RVs.assign rfl rfl (fun _ => rfl) ?_)
      refine VC.nil (k10 ⟨16, [(2, _)]⟩ _ ?_)
      refine CWp.ret (q _ _ _ (.cons (.tmp rfl) .nil) ?_).1
      exact ⟨by simp only [one]; rw [byt_bad hlt hb], (List.IsPrefix.trans hs2.pre (hs3.pre))⟩
    · rw [shownB_i] at hc2
      have hb : shownB s[i] = true := by simpa using hc2
      refine CWp.skip ?_
      refine k7 _ _ ?_
      refine CWp.regionW [0, 5, 6] ?_
      refine VC.s rfl (RVs.arith (r := ((i + 1 : Nat) : Int)) rfl rfl rfl (by (try simp only [bl_bs]); first | exact wrap_in (by omega) | (rw [wrap_in (by omega)]; omega)) rfl (fun _ => ⟨⟨rfl, rfl⟩, rfl⟩) ?_)
      refine VC.s rfl (RVs.move rfl rfl (fun _ => rfl) ?_)
      refine VC.nil (k4 _ ⟨16, [(0, _), (5, _), (6, _)]⟩ _ ?_ ⟨i + 1, rfl, rfl, by omega, byt_step ha hlt hb, List.IsPrefix.trans hs1 hs3.pre⟩)
      omega
  · have hge : s.length ≤ i := by have h9 := hc1; simp at h9; omega
    refine CWp.exit ?_
    refine k2 _ _ ?_
    refine CWp.seqK fun Kk11 k11 => ?_
    refine CWp.regionW [2] ?_
    refine VC.s rfl (RVs.assign rfl rfl (fun _ => rfl) ?_)
    refine VC.nil (k11 ⟨16, [(2, _)]⟩ _ ?_)
    refine CWp.ret (q _ _ _ (.cons (.tmp rfl) .nil) ?_).1
    exact ⟨by simp only [one]; rw [byt_end ha hge], (List.IsPrefix.trans hs2.pre (hs3.pre))⟩

theorem l15List (s : List UInt8) (H : AH) (hs : s.length ≤ 300) : FWp Tryd.prog 51 [.string (bs s), .int .i64 0] H (fun v' H' => v' = .int .i64 (lst (s.drop 1) 0 true 1) ∧ H' = H) := by
  refine FWp.pure rfl fun H ph => ?_
  refine FWp.enterK Tryd.func51 rfl (by decide +kernel) rfl rfl fun Q q => ?_
  have hs0 := Sep.nil (H := H)
  refine CWp.seqK fun Kk1 k1 => ?_
  refine CWp.regionW [0, 1] ?_
  refine VC.s rfl (RVs.assign rfl rfl (fun _ => rfl) ?_)
  refine VC.nil (k1 ⟨49, [(0, _), (1, _)]⟩ _ ?_)
  refine CWp.seqK fun Kk2 k2 => ?_
  refine CWp.regionW [0, 1, 5] ?_
  refine VC.s rfl (RVs.assign rfl rfl (fun _ => rfl) ?_)
  refine VC.nil (k2 ⟨49, [(0, _), (1, _), (5, _)]⟩ _ ?_)
  refine CWp.seqK fun Kk3 k3 => ?_
  refine CWp.seqK fun Kk4 k4 => ?_
  refine CWp.regionW [0, 1, 5, 6] ?_
  refine VC.s rfl (RVs.move rfl rfl (fun _ => rfl) ?_)
  refine VC.s rfl (RVs.arith (r := ((1 : Nat) : Int)) rfl rfl rfl (by decide) rfl (fun _ => ⟨⟨rfl, rfl⟩, rfl⟩) ?_)
  refine VC.s rfl (RVs.assign rfl rfl (fun _ => rfl) ?_)
  refine VC.nil (k4 ⟨49, [(0, _), (1, _), (5, _), (6, _)]⟩ _ ?_)
  refine CWp.block ?_
  refine CWp.loopK (fun n T H' => ∃ (i : Nat) (m : Int), T = ⟨49, [(0, .string (bs s)), (1, .int .i64 0), (5, .int .i64 m), (6, .int .i64 (i : Int))]⟩ ∧ n = s.length + 1 - i ∧ (1 ≤ i ∧ i ≤ s.length + 1) ∧ (0 ≤ m ∧ m ≤ 60) ∧ (lst (s.drop 1) 0 true 1 = lst (s.drop i) m.toNat (decide (i = 1)) i) ∧ H <+: H') (n := s.length + 1 - 1) ⟨1, 0, rfl, by first | rfl | simp, by omega, by omega, rfl, List.prefix_refl _⟩ ?_
  rintro n T Hl1 Kk5 k5 ⟨i, m, rfl, hn1, hi, hn, hz, hs1⟩
  have hs2 := Sep.grow hs0 hs1
  have hs3 := Sep.nil (H := Hl1)
  refine CWp.seqK fun Kk6 k6 => ?_
  refine CWp.seqK fun Kk7 k7 => ?_
  refine CWp.regionW [0, 1, 5, 6, 12] ?_
  refine VC.s rfl (RVs.move rfl rfl (fun _ => rfl) ?_)
  refine VC.s rfl (RVs.move rfl rfl (fun _ => rfl) ?_)
  refine VC.s rfl (RVs.len_string rfl UnStr.h rfl (fun _ => rfl) ?_)
  refine VC.s rfl (RVs.bin rfl rfl rfl rfl (fun _ => ⟨⟨rfl, rfl⟩, rfl⟩) ?_)
  refine VC.nil (k7 ⟨49, [(0, _), (1, _), (5, _), (6, _), (12, _)]⟩ _ ?_)
  refine CWp.condV rfl (fun hc1 => ?_) (fun hc1 => ?_)
  · have hlt : i < s.length := by first | exact_mod_cast hc1 | (have h9 := hc1; simp at h9; omega)
    refine CWp.skip ?_
    refine k6 _ _ ?_
    refine CWp.seqK fun Kk8 k8 => ?_
    refine CWp.block ?_
    refine CWp.block ?_
    refine CWp.seqK fun Kk9 k9 => ?_
    refine CWp.regionW [0, 1, 5, 6, 17] ?_
    refine VC.s rfl (RVs.move rfl rfl (fun _ => rfl) ?_)
    refine VC.s rfl (RVs.move rfl rfl (fun _ => rfl) ?_)
    refine VC.s rfl (RVs.index rfl rfl UnStr.h rfl (fun _ => ⟨⟨rfl, rfl⟩, by omega, by simp; omega⟩) ?_)
    refine VC.s rfl (RVs.bin rfl rfl rfl rfl (fun _ => ⟨⟨rfl, rfl⟩, rfl⟩) ?_)
    refine VC.s rfl (RVs.assign rfl rfl (fun _ => rfl) ?_)
    refine VC.nil (k9 ⟨49, [(0, _), (1, _), (5, _), (6, _), (17, _)]⟩ _ ?_)
    refine CWp.condV rfl (fun hc2 => ?_) (fun hc2 => ?_)
    · rw [bAti hlt] at hc2
      have h2 : s[i].toNat = 41 := by have h9 := of_decide_eq_true hc2; omega
      refine CWp.seqK fun Kk10 k10 => ?_
      refine CWp.seqK fun Kk11 k11 => ?_
      refine CWp.regionW [6, 29] ?_
      refine VC.s rfl (RVs.move rfl rfl (fun _ => rfl) ?_)
      refine VC.s rfl (RVs.bin rfl rfl rfl rfl (fun _ => ⟨⟨rfl, rfl⟩, rfl⟩) ?_)
      refine VC.s rfl (RVs.move rfl rfl (fun _ => rfl) ?_)
      refine VC.s rfl (RVs.move rfl rfl (fun hg => rfl) ?_)
      refine VC.s rfl (RVs.move rfl rfl (fun hg => rfl) ?_)
      refine VC.s rfl (RVs.arith (r := (1 : Int)) rfl rfl rfl (by decide) rfl (fun hg => ⟨⟨hg, rfl⟩, rfl⟩) ?_)
      refine VC.s rfl (RVs.bin rfl rfl rfl rfl (fun hg => ⟨⟨hg, hg⟩, rfl⟩) ?_)
      refine VC.s rfl (RVs.pick rfl rfl rfl rfl (fun hg => ⟨rfl, fun hh => pk_t hh rfl, fun _ => rfl⟩) ?_)
      refine VC.nil (k11 ⟨49, [(6, _), (29, _)]⟩ _ ?_)
      refine CWp.condV rfl (fun hc3 => ?_) (fun hc3 => ?_)
      · rw [condF] at hc3
        have h3 : m.toNat = 0 ∧ decide (i = 1) = false := by have h9 := hc3; simp at h9; exact ⟨by omega, decide_eq_false (by omega)⟩
        refine CWp.seqK fun Kk12 k12 => ?_
        refine CWp.regionW [4] ?_
        refine VC.s rfl (RVs.assign rfl rfl (fun _ => rfl) ?_)
        refine VC.nil (k12 ⟨49, [(4, _)]⟩ _ ?_)
        refine CWp.ret (q _ _ _ (.cons (.tmp rfl) .nil) ?_).1
        exact ⟨by simp only [one]; rw [hz, lst_step hlt, if_pos h2, if_pos h3], (List.IsPrefix.trans hs2.pre (hs3.pre))⟩
      · rw [condF] at hc3
        have h3 : ¬ (m.toNat = 0 ∧ decide (i = 1) = false) := fun e => by have h9 := hc3; have e2 := of_decide_eq_false e.2; simp at h9; omega
        refine CWp.skip ?_
        refine k10 _ _ ?_
        refine CWp.seqK fun Kk13 k13 => ?_
        refine CWp.regionW [4] ?_
        refine VC.s rfl (RVs.move rfl rfl (fun _ => rfl) ?_)
        refine VC.s rfl (RVs.arith (r := ((i + 1 : Nat) : Int)) rfl rfl rfl (by (try simp only [bl_bs]); first | exact wrap_in (by omega) | (rw [wrap_in (by omega)]; omega)) rfl (fun _ => ⟨⟨rfl, rfl⟩, rfl⟩) ?_)
        refine VC.s rfl (RVs.assign rfl rfl (fun _ => rfl) ?_)
        refine VC.nil (k13 ⟨49, [(4, _)]⟩ _ ?_)
        refine CWp.ret (q _ _ _ (.cons (.tmp rfl) .nil) ?_).1
        exact ⟨by simp only [one]; rw [hz, lst_step hlt, if_pos h2, if_neg h3]; rfl, (List.IsPrefix.trans hs2.pre (hs3.pre))⟩
    · rw [bAti hlt] at hc2
      have h2 : ¬ s[i].toNat = 41 := by have h9 := of_decide_eq_false hc2; omega
      refine CWp.seqK fun Kk14 k14 => ?_
      refine CWp.regionW [0, 1, 5, 6, 32] ?_
      refine VC.s rfl (RVs.move rfl rfl (fun _ => rfl) ?_)
      refine VC.s rfl (RVs.move rfl rfl (fun _ => rfl) ?_)
      refine VC.s rfl (RVs.index rfl rfl UnStr.h rfl (fun _ => ⟨⟨rfl, rfl⟩, by omega, by simp; omega⟩) ?_)
      refine VC.s rfl (RVs.bin rfl rfl rfl rfl (fun _ => ⟨⟨rfl, rfl⟩, rfl⟩) ?_)
      refine VC.s rfl (RVs.assign rfl rfl (fun _ => rfl) ?_)
      refine VC.nil (k14 ⟨49, [(0, _), (1, _), (5, _), (6, _), (32, _)]⟩ _ ?_)
      refine CWp.condV rfl (fun hc4 => ?_) (fun hc4 => ?_)
      · rw [bAti hlt] at hc4
        have h4 : s[i].toNat = 32 := by have h9 := of_decide_eq_true hc4; omega
        refine CWp.seqK fun Kk15 k15 => ?_
        refine CWp.seqK fun Kk16 k16 => ?_
        refine CWp.regionW [0, 1, 6, 38] ?_
        refine VC.s rfl (RVs.move rfl rfl (fun _ => rfl) ?_)
        refine VC.s rfl (RVs.bin rfl rfl rfl rfl (fun _ => ⟨⟨rfl, rfl⟩, rfl⟩) ?_)
        refine VC.nil (k16 ⟨49, [(0, _), (1, _), (6, _), (38, _)]⟩ _ ?_)
        refine CWp.condV rfl (fun hc5 => ?_) (fun hc5 => ?_)
        · have h5 : m.toNat = 0 := by have h9 := of_decide_eq_true hc5; omega
          refine CWp.seqK fun Kk17 k17 => ?_
          refine CWp.regionW [4] ?_
          refine VC.s rfl (RVs.assign rfl rfl (fun _ => rfl) ?_)
          refine VC.nil (k17 ⟨49, [(4, _)]⟩ _ ?_)
          refine CWp.ret (q _ _ _ (.cons (.tmp rfl) .nil) ?_).1
          exact ⟨by simp only [one]; rw [hz, lst_step hlt, if_neg h2, if_pos h4, if_pos h5], (List.IsPrefix.trans hs2.pre (hs3.pre))⟩
        · have h5 : ¬ m.toNat = 0 := by have h9 := of_decide_eq_false hc5; omega
          have hst : lst (s.drop i) m.toNat (decide (i = 1)) i = lst (s.drop (i + 1)) (0 : Int).toNat (decide (i + 1 = 1)) (i + 1) := by rw [lst_step hlt, if_neg h2, if_pos h4, if_neg h5, decide_eq_false (show ¬ i + 1 = 1 by omega)]; rfl
          refine CWp.skip ?_
          refine k15 _ _ ?_
          refine CWp.regionW [0, 1, 5, 6] ?_
          refine VC.s rfl (RVs.assign rfl rfl (fun _ => rfl) ?_)
          refine VC.nil (k8 ⟨49, [(0, _), (1, _), (5, _), (6, _)]⟩ _ ?_)
          refine CWp.regionW [0, 1, 5, 6] ?_
          refine VC.s rfl (RVs.move rfl rfl (fun _ => rfl) ?_)
          refine VC.s rfl (RVs.arith (r := ((i + 1 : Nat) : Int)) rfl rfl rfl (by (try simp only [bl_bs]); first | exact wrap_in (by omega) | (rw [wrap_in (by omega)]; omega)) rfl (fun _ => ⟨⟨rfl, rfl⟩, rfl⟩) ?_)
          refine VC.s rfl (RVs.assign rfl rfl (fun _ => rfl) ?_)
          refine VC.nil (k5 _ ⟨49, [(0, _), (1, _), (5, _), (6, _)]⟩ _ ?_ ⟨i + 1, _, rfl, rfl, by omega, by omega, hz.trans hst, List.IsPrefix.trans hs1 hs3.pre⟩)
          omega
      · rw [bAti hlt] at hc4
        have h4 : ¬ s[i].toNat = 32 := by have h9 := of_decide_eq_false hc4; omega
        refine CWp.seqK fun Kk18 k18 => ?_
        refine CWp.regionW [0, 1, 5, 6, 39] ?_
        refine VC.s rfl (RVs.move rfl rfl (fun _ => rfl) ?_)
        refine VC.s rfl (RVs.move rfl rfl (fun _ => rfl) ?_)
        refine VC.s rfl (RVs.index rfl rfl UnStr.h rfl (fun _ => ⟨⟨rfl, rfl⟩, by omega, by simp; omega⟩) ?_)
        refine VC.s rfl (RVs.callp rfl rfl rfl (fun _ => ⟨⟨rfl, rfl⟩, l15Byte (s.getD i 0) _⟩) ?_)
        refine VC.s rfl (RVs.not rfl rfl (fun _ => rfl) ?_)
        refine VC.s rfl (RVs.move rfl rfl (fun _ => rfl) ?_)
        refine VC.s rfl (RVs.move rfl rfl (fun hg => rfl) ?_)
        refine VC.s rfl (RVs.bin rfl rfl rfl rfl (fun hg => ⟨⟨hg, rfl⟩, rfl⟩) ?_)
        refine VC.s rfl (RVs.pick rfl rfl rfl rfl (fun hg => ⟨rfl, fun _ => rfl, fun hh => pk_f hh rfl⟩) ?_)
        refine VC.s rfl (RVs.assign rfl rfl (fun _ => rfl) ?_)
        refine VC.nil (k18 ⟨49, [(0, _), (1, _), (5, _), (6, _), (39, _)]⟩ _ ?_)
        refine CWp.condV rfl (fun hc6 => ?_) (fun hc6 => ?_)
        · rw [condT, gD hlt] at hc6
          have h6 := bad60 hc6
          refine CWp.seqK fun Kk19 k19 => ?_
          refine CWp.regionW [4] ?_
          refine VC.s rfl (RVs.assign rfl rfl (fun _ => rfl) ?_)
          refine VC.nil (k19 ⟨49, [(4, _)]⟩ _ ?_)
          refine CWp.ret (q _ _ _ (.cons (.tmp rfl) .nil) ?_).1
          exact ⟨by simp only [one]; rw [hz, lst_step hlt, if_neg h2, if_neg h4, if_pos h6], (List.IsPrefix.trans hs2.pre (hs3.pre))⟩
        · rw [condT, gD hlt] at hc6
          have h6 := ok60 hc6
          have hst : lst (s.drop i) m.toNat (decide (i = 1)) i = lst (s.drop (i + 1)) (m + 1).toNat (decide (i + 1 = 1)) (i + 1) := by rw [lst_step hlt, if_neg h2, if_neg h4, if_neg h6, decide_eq_false (show ¬ i + 1 = 1 by omega), show (m + 1).toNat = m.toNat + 1 by omega]
          refine CWp.regionW [0, 1, 5, 6] ?_
          refine VC.s rfl (RVs.move rfl rfl (fun _ => rfl) ?_)
          refine VC.s rfl (RVs.arith (r := (m + 1)) rfl rfl rfl (by (try simp only [bl_bs]); first | exact wrap_in (by omega) | (rw [wrap_in (by omega)]; omega)) rfl (fun _ => ⟨⟨rfl, rfl⟩, rfl⟩) ?_)
          refine VC.s rfl (RVs.assign rfl rfl (fun _ => rfl) ?_)
          refine VC.nil (k8 ⟨49, [(0, _), (1, _), (5, _), (6, _)]⟩ _ ?_)
          refine CWp.regionW [0, 1, 5, 6] ?_
          refine VC.s rfl (RVs.move rfl rfl (fun _ => rfl) ?_)
          refine VC.s rfl (RVs.arith (r := ((i + 1 : Nat) : Int)) rfl rfl rfl (by (try simp only [bl_bs]); first | exact wrap_in (by omega) | (rw [wrap_in (by omega)]; omega)) rfl (fun _ => ⟨⟨rfl, rfl⟩, rfl⟩) ?_)
          refine VC.s rfl (RVs.assign rfl rfl (fun _ => rfl) ?_)
          refine VC.nil (k5 _ ⟨49, [(0, _), (1, _), (5, _), (6, _)]⟩ _ ?_ ⟨i + 1, _, rfl, rfl, by omega, by omega, hz.trans hst, List.IsPrefix.trans hs1 hs3.pre⟩)
          omega
  · have hge : s.length ≤ i := by have h9 := hc1; simp at h9; omega
    refine CWp.exit ?_
    refine k3 _ _ ?_
    refine CWp.seqK fun Kk20 k20 => ?_
    refine CWp.regionW [4] ?_
    refine VC.s rfl (RVs.assign rfl rfl (fun _ => rfl) ?_)
    refine VC.nil (k20 ⟨49, [(4, _)]⟩ _ ?_)
    refine CWp.ret (q _ _ _ (.cons (.tmp rfl) .nil) ?_).1
    exact ⟨by simp only [one]; rw [hz, lst_end hge], (List.IsPrefix.trans hs2.pre (hs3.pre))⟩

end Go.Proofs.YtaccaelocddakaaDoor
