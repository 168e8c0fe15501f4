/- The walks of CommandText and of its law. -/
import Derived.Test.YtaccaelocddakaaDoorDC2
namespace Go.Proofs.YtaccaelocddakaaDoor
open Go Go.RowKit
set_option linter.unusedVariables false
set_option maxRecDepth 20000

variable [MLen]
theorem szStringS (va : Value) (xs : List (List UInt8)) (left : Int) (H : AH) (hS : Kd.str.S H va xs) (h0 : 0 ≤ left) (h1 : left ≤ 1048576) : FWp Tryd.prog 10 [va, .int .i64 left] H (fun v' H' => v' = .int .i64 (szS szStrL xs left) ∧ H' = H) := by
  refine FWp.pure rfl fun H ph => ?_
  replace hS := hS.mono (hle ph)
  have hSl := hS.lim
  unfold lim at hSl
  obtain ⟨aa, ca, rfl, hSc⟩ := hS.form
  refine FWp.enterK Tryd.func10 rfl (by decide +kernel) rfl rfl fun Q q => ?_
  have hs0 := Sep.nil (H := H)
  refine CWp.seqK fun Kk1 k1 => ?_
  refine CWp.regionW [0, 1] ?_
  refine VC.s rfl (RVs.assign rfl rfl (fun _ => rfl) ?_)
  refine VC.nil (k1 ⟨28, [(0, _), (1, _)]⟩ _ ?_)
  refine CWp.seqK fun Kk2 k2 => ?_
  refine CWp.regionW [0, 1] ?_
  refine VC.s rfl (RVs.move rfl rfl (fun _ => rfl) ?_)
  refine VC.s rfl (RVs.move rfl rfl (fun _ => rfl) ?_)
  refine VC.s rfl (RVs.len_slice rfl UnSl.h rfl (fun _ => rfl) ?_)
  refine VC.s rfl (RVs.arith (r := (left - xs.length)) rfl rfl rfl (by (try simp only [bl_bs]); first | exact wrap_in (by omega) | (rw [wrap_in (by omega)]; omega)) rfl (fun _ => ⟨⟨rfl, rfl⟩, rfl⟩) ?_)
  refine VC.s rfl (RVs.assign rfl rfl (fun _ => rfl) ?_)
  refine VC.nil (k2 ⟨28, [(0, _), (1, _)]⟩ _ ?_)
  refine CWp.seqK fun Kk3 k3 => ?_
  refine CWp.seqK fun Kk4 k4 => ?_
  refine CWp.regionW [0, 1, 11] ?_
  refine VC.s rfl (RVs.move rfl rfl (fun _ => rfl) ?_)
  refine VC.s rfl (RVs.bin rfl rfl rfl rfl (fun _ => ⟨⟨rfl, rfl⟩, rfl⟩) ?_)
  refine VC.nil (k4 ⟨28, [(0, _), (1, _), (11, _)]⟩ _ ?_)
  refine CWp.condV rfl (fun hc1 => ?_) (fun hc1 => ?_)
  · try simp at hc1
    refine CWp.seqK fun Kk5 k5 => ?_
    refine CWp.regionW [4] ?_
    refine VC.s rfl (RVs.assign rfl rfl (fun _ => rfl) ?_)
    refine VC.nil (k5 ⟨28, [(4, _)]⟩ _ ?_)
    refine CWp.ret (q _ _ _ (.cons (.tmp rfl) .nil) ?_).1
    exact ⟨by simp [one, szS, hc1], (hs0.pre)⟩
  · try simp at hc1
    refine CWp.skip ?_
    refine k3 _ _ ?_
    refine CWp.seqK fun Kk6 k6 => ?_
    refine CWp.seqK fun Kk7 k7 => ?_
    refine CWp.regionW [0, 1, 5] ?_
    refine VC.s rfl (RVs.assign rfl rfl (fun _ => rfl) ?_)
    refine VC.nil (k7 ⟨28, [(0, _), (1, _), (5, _)]⟩ _ ?_)
    refine CWp.block ?_
    refine CWp.loopK (fun n T H' => ∃ (i : Nat) (l : Int), T = ⟨28, [(0, .slice aa xs.length ca), (1, .int .i64 l), (5, .int .i64 (i : Int))]⟩ ∧ n = xs.length - i ∧ (i ≤ xs.length) ∧ (0 ≤ l ∧ l ≤ 1048576) ∧ (szs szStrL xs (left - xs.length) = szs szStrL (xs.drop i) l) ∧ H <+: H') (n := xs.length) ⟨0, left - xs.length, rfl, by first | rfl | simp, by omega, by omega, by simp, List.prefix_refl _⟩ ?_
    rintro n T Hl1 Kk8 k8 ⟨i, l, rfl, hn1, hi, hl, hz, hs1⟩
    have hs2 := Sep.grow hs0 hs1
    have hs3 := Sep.nil (H := Hl1)
    refine CWp.seqK fun Kk9 k9 => ?_
    refine CWp.seqK fun Kk10 k10 => ?_
    refine CWp.regionW [0, 1, 5, 15] ?_
    refine VC.s rfl (RVs.move rfl rfl (fun _ => rfl) ?_)
    refine VC.s rfl (RVs.move rfl rfl (fun _ => rfl) ?_)
    refine VC.s rfl (RVs.len_slice rfl UnSl.h rfl (fun _ => rfl) ?_)
    refine VC.s rfl (RVs.bin rfl rfl rfl rfl (fun _ => ⟨⟨rfl, rfl⟩, rfl⟩) ?_)
    refine VC.nil (k10 ⟨28, [(0, _), (1, _), (5, _), (15, _)]⟩ _ ?_)
    refine CWp.condV rfl (fun hc2 => ?_) (fun hc2 => ?_)
    · try simp at hc2
      refine CWp.skip ?_
      refine k9 _ _ ?_
      refine CWp.seqK fun Kk11 k11 => ?_
      refine CWp.block ?_
      refine CWp.seqK fun Kk12 k12 => ?_
      refine CWp.regionW [0, 1, 5] ?_
      refine VC.s rfl (RVs.move rfl rfl (fun _ => rfl) ?_)
      refine VC.s rfl (RVs.move rfl rfl (fun _ => rfl) ?_)
      refine VC.s rfl (RVs.move rfl rfl (fun _ => rfl) ?_)
      refine VC.s rfl (RVs.indexS rfl (hS.mono (hle (List.IsPrefix.trans hs2.pre (hs3.pre)))) rfl ElemOf.h rfl (fun _ => ⟨⟨rfl, rfl⟩, by omega, by omega⟩) ?_)
      intro id1 j1 u1 B1 e1
      obtain ⟨y1, hy1, e1⟩ := e1 rfl
      try simp only [Int.toNat_natCast] at hy1
      obtain ⟨rfl, hwy1⟩ := e1.r
      unfold lim at hwy1
      refine VC.s rfl (RVs.loadF (k := Kd.str) (f := 0) rfl TyOf.h rfl (fun _ => ⟨rfl, e1, by decide, rfl⟩) ?_)
      refine VC.s rfl (RVs.len_string rfl UnStr.h rfl (fun _ => rfl) ?_)
      refine VC.s rfl (RVs.arith (r := szStrL y1 l) rfl rfl rfl (by rw [bl_bs]; exact wrap_in (by omega)) rfl (fun _ => ⟨⟨rfl, rfl⟩, rfl⟩) ?_)
      refine VC.s rfl (RVs.assign rfl rfl (fun _ => rfl) ?_)
      refine VC.nil (k12 ⟨28, [(0, _), (1, _), (5, _)]⟩ _ ?_)
      refine CWp.seqK fun Kk13 k13 => ?_
      refine CWp.regionW [0, 1, 5, 26] ?_
      refine VC.s rfl (RVs.move rfl rfl (fun _ => rfl) ?_)
      refine VC.s rfl (RVs.bin rfl rfl rfl rfl (fun _ => ⟨⟨rfl, rfl⟩, rfl⟩) ?_)
      refine VC.nil (k13 ⟨28, [(0, _), (1, _), (5, _), (26, _)]⟩ _ ?_)
      refine CWp.condV rfl (fun hc3 => ?_) (fun hc3 => ?_)
      · try simp at hc3
        refine CWp.seqK fun Kk14 k14 => ?_
        refine CWp.regionW [4] ?_
        refine VC.s rfl (RVs.assign rfl rfl (fun _ => rfl) ?_)
        refine VC.nil (k14 ⟨28, [(4, _)]⟩ _ ?_)
        refine CWp.ret (q _ _ _ (.cons (.tmp rfl) .nil) ?_).1
        exact ⟨by simp only [one, szS]; rw [if_neg (by omega), hz, szs_bad hy1 (by simpa using hc3)], (List.IsPrefix.trans hs2.pre (hs3.pre))⟩
      · try simp at hc3
        refine CWp.skip ?_
        refine k11 _ _ ?_
        refine CWp.regionW [0, 1, 5] ?_
        refine VC.s rfl (RVs.move rfl rfl (fun _ => rfl) ?_)
        refine VC.s rfl (RVs.arith (r := ((i + 1 : Nat) : Int)) rfl rfl rfl (by (try simp only [bl_bs]); first | exact wrap_in (by omega) | (rw [wrap_in (by omega)]; omega)) rfl (fun _ => ⟨⟨rfl, rfl⟩, rfl⟩) ?_)
        refine VC.s rfl (RVs.assign rfl rfl (fun _ => rfl) ?_)
        refine VC.nil (k8 _ ⟨28, [(0, _), (1, _), (5, _)]⟩ _ ?_ ⟨i + 1, _, rfl, rfl, by omega, by have := szStrL_le y1 l hl.1; omega, by rw [hz, szs_step hy1 (by simpa using hc3)], List.IsPrefix.trans hs1 hs3.pre⟩)
        omega
    · try simp at hc2
      refine CWp.exit ?_
      refine k6 _ _ ?_
      refine CWp.seqK fun Kk15 k15 => ?_
      refine CWp.regionW [4] ?_
      refine VC.s rfl (RVs.move rfl rfl (fun _ => rfl) ?_)
      refine VC.s rfl (RVs.assign rfl rfl (fun _ => rfl) ?_)
      refine VC.nil (k15 ⟨28, [(4, _)]⟩ _ ?_)
      refine CWp.ret (q _ _ _ (.cons (.tmp rfl) .nil) ?_).1
      exact ⟨by simp only [one, szS]; rw [if_neg (by omega), hz, szs_end (by omega)], (List.IsPrefix.trans hs2.pre (hs3.pre))⟩

theorem toStringS (va : Value) (xs : List (List UInt8)) (H : AH) (hS : Kd.str.S H va xs) (hn : xs.length ≤ 1048576) : FWp Tryd.prog 12 [va] H (fun v' H' => Fresh Kd.str.slice H H' [v'] xs) := by
  obtain ⟨aa, ca, rfl, hca⟩ := hS.form
  refine FWp.enterK Tryd.func12 rfl (by decide +kernel) rfl rfl fun Q q => ?_
  refine CWp.seqK fun Kk1 k1 => ?_
  refine CWp.regionW [0] ?_
  refine VC.s rfl (RVs.assign rfl rfl (fun _ => rfl) ?_)
  refine VC.nil (k1 ⟨22, [(0, _)]⟩ _ ?_)
  refine CWp.seqK fun Kk2 k2 => ?_
  refine CWp.regionW [0, 3] ?_
  refine VC.s rfl (RVs.move rfl rfl (fun _ => rfl) ?_)
  refine VC.s rfl (RVs.len_slice rfl UnSl.h rfl (fun _ => rfl) ?_)
  refine VC.s rfl (RVs.makeS rfl rfl ElemOf.h ElOk.h ZeroOf.h rfl rfl ⟨rfl, rfl⟩ (by omega) ?_)
  intro id1 H1 g1 l1 a1
  have p1 := (List.prefix_refl H).trans g1
  have fi1 := Kd.Fill.start (k := Kd.str) a1 rfl l1
  refine VC.s rfl (RVs.assign rfl rfl (fun _ => rfl) ?_)
  refine VC.nil (k2 ⟨22, [(0, _), (3, _)]⟩ _ ?_)
  refine CWp.seqK fun Kk3 k3 => ?_
  refine CWp.seqK fun Kk4 k4 => ?_
  refine CWp.regionW [0, 3, 4] ?_
  refine VC.s rfl (RVs.assign rfl rfl (fun _ => rfl) ?_)
  refine VC.nil (k4 ⟨22, [(0, _), (3, _), (4, _)]⟩ _ ?_)
  refine CWp.block ?_
  refine CWp.loopK (fun n T H' => ∃ i : Nat, T = ⟨22, [(0, .slice aa xs.length ca), (3, .slice (some ⟨id1, 0, none⟩) xs.length xs.length), (4, .int .i64 (i : Int))]⟩ ∧ n = xs.length - i ∧ (i ≤ xs.length) ∧ H <+: H' ∧ ∃ F, Kd.str.Fill 9 H.length H' id1 xs.length (xs.take i) F) (n := xs.length) ⟨0, rfl, by first | rfl | simp, by omega, p1, _, by simpa using fi1⟩ ?_
  rintro n T Hl1 Kk5 k5 ⟨i, rfl, hn1, hi, plo, Fo, hfo⟩
  refine CWp.seqK fun Kk6 k6 => ?_
  refine CWp.seqK fun Kk7 k7 => ?_
  refine CWp.regionW [0, 3, 4, 11] ?_
  refine VC.s rfl (RVs.move rfl rfl (fun _ => rfl) ?_)
  refine VC.s rfl (RVs.move rfl rfl (fun _ => rfl) ?_)
  refine VC.s rfl (RVs.len_slice rfl UnSl.h rfl (fun _ => rfl) ?_)
  refine VC.s rfl (RVs.bin rfl rfl rfl rfl (fun _ => ⟨⟨rfl, rfl⟩, rfl⟩) ?_)
  refine VC.nil (k7 ⟨22, [(0, _), (3, _), (4, _), (11, _)]⟩ _ ?_)
  refine CWp.condV rfl (fun hc1 => ?_) (fun hc1 => ?_)
  · try simp at hc1
    refine CWp.skip ?_
    refine k6 _ _ ?_
    refine CWp.seqK fun Kk8 k8 => ?_
    refine CWp.block ?_
    refine CWp.regionW [0, 3, 4] ?_
    refine VC.s rfl (RVs.move rfl rfl (fun _ => rfl) ?_)
    refine VC.s rfl (RVs.move rfl rfl (fun _ => rfl) ?_)
    refine VC.s rfl (RVs.move rfl rfl (fun _ => rfl) ?_)
    refine VC.s rfl (RVs.move rfl rfl (fun _ => rfl) ?_)
    refine VC.s rfl (RVs.indexS rfl (hS.mono (hle plo)) rfl ElemOf.h rfl (fun _ => ⟨⟨rfl, rfl⟩, by omega, by omega⟩) ?_)
    intro id2 j1 u1 B1 e1
    obtain ⟨y1, hy1, e1⟩ := e1 rfl
    obtain ⟨rfl, hw⟩ := e1.r
    refine VC.s rfl (RVs.loadF (k := Kd.str) (f := 0) rfl TyOf.h rfl (fun _ => ⟨rfl, e1, by decide, rfl⟩) ?_)
    refine VC.s rfl (RVs.indexAddr rfl rfl ElemOf.h rfl (fun _ => ⟨⟨rfl, rfl⟩, by omega, by omega⟩) ?_)
    refine VC.s rfl (RVs.storeFill1 (k := Kd.str) rfl rfl TyOf.h rfl rfl rfl rfl ⟨rfl, rfl⟩ hfo (by simp; omega) (by simp; omega) (⟨⟨rfl, hw⟩, rfl⟩) (by simpa using hfo.nd) (by simp) ?_)
    intro B2 H2 u2 fi2
    have p2 := u2.prefix plo (by have := List.IsPrefix.length_le plo; have := fi2.lo id1 (by simp); omega)
    refine VC.nil (k8 ⟨22, [(0, _), (3, _), (4, _)]⟩ _ ?_)
    refine CWp.regionW [0, 3, 4] ?_
    refine VC.s rfl (RVs.move rfl rfl (fun _ => rfl) ?_)
    refine VC.s rfl (RVs.bin rfl rfl rfl rfl (fun _ => ⟨⟨rfl, rfl⟩, rfl⟩) ?_)
    refine VC.s rfl (RVs.assign rfl rfl (fun _ => rfl) ?_)
    rw [wrap_succ (n := xs.length) (by omega) (by unfold lim; omega)]
    refine VC.nil (k5 _ ⟨22, [(0, _), (3, _), (4, _)]⟩ _ ?_ ⟨i + 1, rfl, rfl, by omega, p2, _, (take_snoc hy1) ▸ fi2⟩)
    omega
  · try simp at hc1
    refine CWp.exit ?_
    refine k3 _ _ ?_
    refine CWp.seqK fun Kk9 k9 => ?_
    refine CWp.regionW [2] ?_
    refine VC.s rfl (RVs.move rfl rfl (fun _ => rfl) ?_)
    refine VC.s rfl (RVs.assign rfl rfl (fun _ => rfl) ?_)
    refine VC.nil (k9 ⟨22, [(2, _)]⟩ _ ?_)
    refine CWp.ret (q _ _ _ (.cons (.tmp rfl) .nil) ?_).1
    have hf := hfo
    rw [List.take_of_length_le (by omega)] at hf
    exact hf.fresh plo rfl (by unfold lim; omega)

theorem eqStringS (va vb : Value) (xs ys : List (List UInt8)) (H : AH) (ha : Kd.str.S H va xs) (hb : Kd.str.S H vb ys) : FWp Tryd.prog 14 [va, vb] H (fun v' H' => v' = .bool (decide (xs = ys)) ∧ H' = H) := by
  refine FWp.pure rfl fun H ph => ?_
  replace ha := ha.mono (hle ph)
  replace hb := hb.mono (hle ph)
  have hla := ha.lim
  have hlb := hb.lim
  obtain ⟨aa, ca, rfl, hca⟩ := ha.form
  obtain ⟨ab, cb, rfl, hcb⟩ := hb.form
  refine FWp.enterK Tryd.func14 rfl (by decide +kernel) rfl rfl fun Q q => ?_
  refine CWp.seqK fun Kk1 k1 => ?_
  refine CWp.regionW [0, 1] ?_
  refine VC.s rfl (RVs.assign rfl rfl (fun _ => rfl) ?_)
  refine VC.nil (k1 ⟨26, [(0, _), (1, _)]⟩ _ ?_)
  refine CWp.seqK fun Kk2 k2 => ?_
  refine CWp.seqK fun Kk3 k3 => ?_
  refine CWp.regionW [0, 1, 10] ?_
  refine VC.s rfl (RVs.move rfl rfl (fun _ => rfl) ?_)
  refine VC.s rfl (RVs.len_slice rfl UnSl.h rfl (fun _ => rfl) ?_)
  refine VC.s rfl (RVs.move rfl rfl (fun _ => rfl) ?_)
  refine VC.s rfl (RVs.len_slice rfl UnSl.h rfl (fun _ => rfl) ?_)
  refine VC.s rfl (RVs.bin rfl rfl rfl rfl (fun _ => ⟨⟨rfl, rfl⟩, rfl⟩) ?_)
  refine VC.nil (k3 ⟨26, [(0, _), (1, _), (10, _)]⟩ _ ?_)
  refine CWp.condV rfl (fun hc1 => ?_) (fun hc1 => ?_)
  · try simp at hc1
    refine CWp.seqK fun Kk4 k4 => ?_
    refine CWp.regionW [4] ?_
    refine VC.s rfl (RVs.assign rfl rfl (fun _ => rfl) ?_)
    refine VC.nil (k4 ⟨26, [(4, _)]⟩ _ ?_)
    refine CWp.ret (q _ _ _ (.cons (.tmp rfl) .nil) ?_).1
    exact ⟨by simp [one, show ¬ xs = ys from fun h => hc1 (by rw [h])], (List.prefix_refl H)⟩
  · try simp at hc1
    refine CWp.skip ?_
    refine k2 _ _ ?_
    refine CWp.seqK fun Kk5 k5 => ?_
    refine CWp.seqK fun Kk6 k6 => ?_
    refine CWp.regionW [0, 1, 5] ?_
    refine VC.s rfl (RVs.assign rfl rfl (fun _ => rfl) ?_)
    refine VC.nil (k6 ⟨26, [(0, _), (1, _), (5, _)]⟩ _ ?_)
    refine CWp.block ?_
    refine CWp.loopK (fun n T H' => ∃ i : Nat, T = ⟨26, [(0, .slice aa xs.length ca), (1, .slice ab ys.length cb), (5, .int .i64 (i : Int))]⟩ ∧ n = xs.length - i ∧ (i ≤ xs.length) ∧ (xs.take i = ys.take i) ∧ H <+: H') (n := xs.length) ⟨0, rfl, by first | rfl | simp, by omega, by simp, List.prefix_refl _⟩ ?_
    rintro n T Hl1 Kk7 k7 ⟨i, rfl, hn1, hi, heq, pl1⟩
    have p1 := (List.prefix_refl H).trans pl1
    refine CWp.seqK fun Kk8 k8 => ?_
    refine CWp.seqK fun Kk9 k9 => ?_
    refine CWp.regionW [0, 1, 5, 14] ?_
    refine VC.s rfl (RVs.move rfl rfl (fun _ => rfl) ?_)
    refine VC.s rfl (RVs.move rfl rfl (fun _ => rfl) ?_)
    refine VC.s rfl (RVs.len_slice rfl UnSl.h rfl (fun _ => rfl) ?_)
    refine VC.s rfl (RVs.bin rfl rfl rfl rfl (fun _ => ⟨⟨rfl, rfl⟩, rfl⟩) ?_)
    refine VC.nil (k9 ⟨26, [(0, _), (1, _), (5, _), (14, _)]⟩ _ ?_)
    refine CWp.condV rfl (fun hc2 => ?_) (fun hc2 => ?_)
    · try simp at hc2
      refine CWp.skip ?_
      refine k8 _ _ ?_
      refine CWp.seqK fun Kk10 k10 => ?_
      refine CWp.block ?_
      refine CWp.seqK fun Kk11 k11 => ?_
      refine CWp.regionDW [0, 1, 5, 25] [false, false, false, false, false, false, false, false, false] (by decide +kernel) ?_
      refine VC.s rfl (RVs.move rfl rfl (fun _ => rfl) ?_)
      refine VC.s rfl (RVs.move rfl rfl (fun _ => rfl) ?_)
      refine VC.s rfl (RVs.indexS rfl (ha.mono (hle p1)) rfl ElemOf.h rfl (fun _ => ⟨⟨rfl, rfl⟩, by omega, by omega⟩) ?_)
      intro id1 j1 u1 B1 e1
      obtain ⟨y1, hy1, e1⟩ := e1 rfl
      obtain ⟨rfl, _⟩ := e1.r
      refine VC.s rfl (RVs.loadF (k := Kd.str) (f := 0) rfl TyOf.h rfl (fun _ => ⟨rfl, e1, by decide, rfl⟩) ?_)
      refine VC.s rfl (RVs.move rfl rfl (fun _ => rfl) ?_)
      refine VC.s rfl (RVs.move rfl rfl (fun _ => rfl) ?_)
      refine VC.s rfl (RVs.indexS rfl (hb.mono (hle p1)) rfl ElemOf.h rfl (fun _ => ⟨⟨rfl, rfl⟩, by omega, by omega⟩) ?_)
      intro id2 j2 u2 B2 e2
      obtain ⟨y2, hy2, e2⟩ := e2 rfl
      obtain ⟨rfl, _⟩ := e2.r
      refine VC.s rfl (RVs.loadF (k := Kd.str) (f := 0) rfl TyOf.h rfl (fun _ => ⟨rfl, e2, by decide, rfl⟩) ?_)
      refine VC.s rfl (RVs.bin rfl rfl rfl rfl (fun _ => ⟨⟨rfl, rfl⟩, trivial⟩) ?_)
      refine VC.nil (k11 ⟨26, [(0, _), (1, _), (5, _), (25, _)]⟩ _ ?_)
      refine CWp.condV rfl (fun hc3 => ?_) (fun hc3 => ?_)
      · try simp at hc3
        refine CWp.seqK fun Kk12 k12 => ?_
        refine CWp.regionW [4] ?_
        refine VC.s rfl (RVs.assign rfl rfl (fun _ => rfl) ?_)
        refine VC.nil (k12 ⟨26, [(4, _)]⟩ _ ?_)
        refine CWp.ret (q _ _ _ (.cons (.tmp rfl) .nil) ?_).1
        exact ⟨by simp [one, ne_at hy1 hy2 hc3], p1⟩
      · try simp at hc3
        refine CWp.skip ?_
        refine k10 _ _ ?_
        refine CWp.regionW [0, 1, 5] ?_
        refine VC.s rfl (RVs.move rfl rfl (fun _ => rfl) ?_)
        refine VC.s rfl (RVs.bin rfl rfl rfl rfl (fun _ => ⟨⟨rfl, rfl⟩, rfl⟩) ?_)
        refine VC.s rfl (RVs.assign rfl rfl (fun _ => rfl) ?_)
        rw [wrap_succ (n := xs.length) (by omega) (by omega)]
        refine VC.nil (k7 _ ⟨26, [(0, _), (1, _), (5, _)]⟩ _ ?_ ⟨i + 1, rfl, rfl, by omega, take_succ heq hy1 hy2 hc3, pl1.trans (List.prefix_refl Hl1)⟩)
        omega
    · try simp at hc2
      refine CWp.exit ?_
      refine k5 _ _ ?_
      refine CWp.seqK fun Kk13 k13 => ?_
      refine CWp.regionW [4] ?_
      refine VC.s rfl (RVs.assign rfl rfl (fun _ => rfl) ?_)
      refine VC.nil (k13 ⟨26, [(4, _)]⟩ _ ?_)
      refine CWp.ret (q _ _ _ (.cons (.tmp rfl) .nil) ?_).1
      exact ⟨by simp [one, take_all heq (by omega) (by omega)], p1⟩

theorem sCommandText (va : Value) (xs : List (List UInt8)) (H : AH) (hS : Kd.str.S H va xs) : FWp Tryd.prog 11 [va] H (fun v' H' => v' = .tuple #[.string (bs (commandText xs).1), .bool (commandText xs).2] ∧ H' = H) := by
  refine FWp.pure rfl fun H ph => ?_
  replace hS := hS.mono (hle ph)
  have hSl := hS.lim
  unfold lim at hSl
  obtain ⟨aa, ca, rfl, hSc⟩ := hS.form
  refine FWp.enterK Tryd.func11 rfl (by decide +kernel) rfl rfl fun Q q => ?_
  have hs0 := Sep.nil (H := H)
  refine CWp.seqK fun Kk1 k1 => ?_
  refine CWp.regionW [0] ?_
  refine VC.s rfl (RVs.assign rfl rfl (fun _ => rfl) ?_)
  refine VC.s rfl (RVs.assign rfl rfl (fun _ => rfl) ?_)
  refine VC.nil (k1 ⟨39, [(0, _)]⟩ _ ?_)
  refine CWp.seqK fun Kk2 k2 => ?_
  refine CWp.seqK fun Kk3 k3 => ?_
  refine CWp.regionW [0, 9] ?_
  refine VC.s rfl (RVs.move rfl rfl (fun _ => rfl) ?_)
  refine VC.s rfl (RVs.len_slice rfl UnSl.h rfl (fun _ => rfl) ?_)
  refine VC.s rfl (RVs.callp rfl rfl rfl (fun _ => ⟨⟨rfl, rfl⟩, l01In _ _ _ _⟩) ?_)
  refine VC.s rfl (RVs.not rfl rfl (fun _ => rfl) ?_)
  refine VC.nil (k3 ⟨39, [(0, _), (9, _)]⟩ _ ?_)
  refine CWp.condV rfl (fun hc1 => ?_) (fun hc1 => ?_)
  · have hx := of_decide_eq_false (nn1 hc1)
    refine CWp.seqK fun Kk4 k4 => ?_
    refine CWp.regionW [2, 3] ?_
    refine VC.s rfl (RVs.assign rfl rfl (fun _ => rfl) ?_)
    refine VC.s rfl (RVs.assign rfl rfl (fun _ => rfl) ?_)
    refine VC.nil (k4 ⟨39, [(2, _), (3, _)]⟩ _ ?_)
    refine CWp.ret (q _ _ _ (.cons (.tmp rfl) (.cons (.tmp rfl) .nil)) ?_).1
    exact ⟨by simp only [one]; rw [cmd_few hx]; rfl, (hs0.pre)⟩
  · have hx := of_decide_eq_true (nn0 hc1)
    refine CWp.skip ?_
    refine k2 _ _ ?_
    refine CWp.seqK fun Kk5 k5 => ?_
    refine CWp.regionW [0, 4] ?_
    refine VC.s rfl (RVs.assign rfl rfl (fun _ => rfl) ?_)
    refine VC.nil (k5 ⟨39, [(0, _), (4, _)]⟩ _ ?_)
    refine CWp.seqK fun Kk6 k6 => ?_
    refine CWp.seqK fun Kk7 k7 => ?_
    refine CWp.regionW [0, 4, 5] ?_
    refine VC.s rfl (RVs.assign rfl rfl (fun _ => rfl) ?_)
    refine VC.nil (k7 ⟨39, [(0, _), (4, _), (5, _)]⟩ _ ?_)
    refine CWp.block ?_
    refine CWp.loopK (fun n T H' => ∃ i : Nat, T = ⟨39, [(0, .slice aa xs.length ca), (4, .string (bs (cup xs i))), (5, .int .i64 (i : Int))]⟩ ∧ n = xs.length - i ∧ (i ≤ xs.length) ∧ ((xs.take i).all (fun w => decide (w.length ≤ 300)) = true) ∧ ((cup xs i).length ≤ 10401 * i) ∧ H <+: H') (n := xs.length) ⟨0, rfl, by first | rfl | simp, by omega, by simp, by simp [cup0], List.prefix_refl _⟩ ?_
    rintro n T Hl1 Kk8 k8 ⟨i, rfl, hn1, hi, ha, hcl, hs1⟩
    have hs2 := Sep.grow hs0 hs1
    have hs3 := Sep.nil (H := Hl1)
    refine CWp.seqK fun Kk9 k9 => ?_
    refine CWp.seqK fun Kk10 k10 => ?_
    refine CWp.regionW [0, 4, 5, 13] ?_
    refine VC.s rfl (RVs.move rfl rfl (fun _ => rfl) ?_)
    refine VC.s rfl (RVs.move rfl rfl (fun _ => rfl) ?_)
    refine VC.s rfl (RVs.len_slice rfl UnSl.h rfl (fun _ => rfl) ?_)
    refine VC.s rfl (RVs.bin rfl rfl rfl rfl (fun _ => ⟨⟨rfl, rfl⟩, rfl⟩) ?_)
    refine VC.nil (k10 ⟨39, [(0, _), (4, _), (5, _), (13, _)]⟩ _ ?_)
    refine CWp.condV rfl (fun hc2 => ?_) (fun hc2 => ?_)
    · try simp at hc2
      refine CWp.skip ?_
      refine k9 _ _ ?_
      refine CWp.seqK fun Kk11 k11 => ?_
      refine CWp.block ?_
      refine CWp.seqK fun Kk12 k12 => ?_
      refine CWp.seqK fun Kk13 k13 => ?_
      refine CWp.regionW [0, 4, 5, 21] ?_
      refine VC.s rfl (RVs.move rfl rfl (fun _ => rfl) ?_)
      refine VC.s rfl (RVs.move rfl rfl (fun _ => rfl) ?_)
      refine VC.s rfl (RVs.indexS rfl (hS.mono (hle (List.IsPrefix.trans hs2.pre (hs3.pre)))) rfl ElemOf.h rfl (fun _ => ⟨⟨rfl, rfl⟩, by omega, by omega⟩) ?_)
      intro id1 j1 u1 B1 e1
      obtain ⟨y1, hy1, e1⟩ := e1 rfl
      try simp only [Int.toNat_natCast] at hy1
      obtain ⟨rfl, hwy1⟩ := e1.r
      refine VC.s rfl (RVs.loadF (k := Kd.str) (f := 0) rfl TyOf.h rfl (fun _ => ⟨rfl, e1, by decide, rfl⟩) ?_)
      refine VC.s rfl (RVs.len_string rfl UnStr.h rfl (fun _ => rfl) ?_)
      refine VC.s rfl (RVs.bin rfl rfl rfl rfl (fun _ => ⟨⟨rfl, rfl⟩, rfl⟩) ?_)
      refine VC.nil (k13 ⟨39, [(0, _), (4, _), (5, _), (21, _)]⟩ _ ?_)
      refine CWp.condV rfl (fun hc3 => ?_) (fun hc3 => ?_)
      · have hlen : 300 < y1.length := by have h9 := of_decide_eq_true hc3; simp only [bl_bs] at h9; omega
        refine CWp.seqK fun Kk14 k14 => ?_
        refine CWp.regionW [2, 3] ?_
        refine VC.s rfl (RVs.assign rfl rfl (fun _ => rfl) ?_)
        refine VC.s rfl (RVs.assign rfl rfl (fun _ => rfl) ?_)
        refine VC.nil (k14 ⟨39, [(2, _), (3, _)]⟩ _ ?_)
        refine CWp.ret (q _ _ _ (.cons (.tmp rfl) (.cons (.tmp rfl) .nil)) ?_).1
        exact ⟨by simp only [one]; rw [cmd_bad hy1 hlen]; rfl, (List.IsPrefix.trans hs2.pre (hs3.pre))⟩
      · have hlen : y1.length ≤ 300 := by have h9 := of_decide_eq_false hc3; simp only [bl_bs] at h9; omega
        have hwl := wordW_len hlen
        refine CWp.skip ?_
        refine k12 _ _ ?_
        refine CWp.seqK fun Kk15 k15 => ?_
        refine CWp.seqK fun Kk16 k16 => ?_
        refine CWp.regionW [0, 4, 5, 23] ?_
        refine VC.s rfl (RVs.move rfl rfl (fun _ => rfl) ?_)
        refine VC.s rfl (RVs.bin rfl rfl rfl rfl (fun _ => ⟨⟨rfl, rfl⟩, rfl⟩) ?_)
        refine VC.nil (k16 ⟨39, [(0, _), (4, _), (5, _), (23, _)]⟩ _ ?_)
        refine CWp.condV rfl (fun hc4 => ?_) (fun hc4 => ?_)
        · have hst := cup_next hy1 (by have h9 := of_decide_eq_true hc4; omega)
          refine CWp.regionW [0, 4, 5] ?_
          refine VC.s rfl (RVs.move rfl rfl (fun _ => rfl) ?_)
          refine VC.s rfl (RVs.bin rfl rfl rfl rfl (fun _ => ⟨⟨rfl, rfl⟩, by (try simp only [bl_bs]); (try simp); omega⟩) ?_)
          refine VC.s rfl (RVs.assign rfl rfl (fun _ => rfl) ?_)
          refine VC.nil (k15 ⟨39, [(0, _), (4, _), (5, _)]⟩ _ ?_)
          refine CWp.regionW [0, 4, 5] ?_
          refine VC.s rfl (RVs.move rfl rfl (fun _ => rfl) ?_)
          refine VC.s rfl (RVs.move rfl rfl (fun _ => rfl) ?_)
          refine VC.s rfl (RVs.move rfl rfl (fun _ => rfl) ?_)
          refine VC.s rfl (RVs.indexS rfl (hS.mono (hle (List.IsPrefix.trans hs2.pre (hs3.pre)))) rfl ElemOf.h rfl (fun _ => ⟨⟨rfl, rfl⟩, by omega, by omega⟩) ?_)
          intro id2 j2 u2 B2 e2
          obtain ⟨y2, hy2, e2⟩ := e2 rfl
          try simp only [Int.toNat_natCast] at hy2
          obtain ⟨rfl, hwy2⟩ := e2.r
          have e12 : y1 = y2 := Option.some.inj (hy1.symm.trans hy2)
          subst e12
          refine VC.s rfl (RVs.loadF (k := Kd.str) (f := 0) rfl TyOf.h rfl (fun _ => ⟨rfl, e2, by decide, rfl⟩) ?_)
          refine VC.s rfl (RVs.callp rfl rfl rfl (fun _ => ⟨⟨rfl, rfl⟩, l15Word y1 _ hlen⟩) ?_)
          refine VC.s rfl (RVs.bin rfl rfl rfl rfl (fun _ => ⟨⟨rfl, rfl⟩, by (try simp only [bl_bs]); (try simp); omega⟩) ?_)
          refine VC.s rfl (RVs.assign rfl rfl (fun _ => rfl) ?_)
          refine VC.nil (k11 ⟨39, [(0, _), (4, _), (5, _)]⟩ _ ?_)
          refine CWp.regionW [0, 4, 5] ?_
          refine VC.s rfl (RVs.move rfl rfl (fun _ => rfl) ?_)
          refine VC.s rfl (RVs.arith (r := ((i + 1 : Nat) : Int)) rfl rfl rfl (by (try simp only [bl_bs]); first | exact wrap_in (by omega) | (rw [wrap_in (by omega)]; omega)) rfl (fun _ => ⟨⟨rfl, rfl⟩, rfl⟩) ?_)
          refine VC.s rfl (RVs.assign rfl rfl (fun _ => rfl) ?_)
          refine VC.nil (k8 _ ⟨39, [(0, _), (4, _), (5, _)]⟩ _ ?_ ⟨i + 1, by rw [hst]; simp only [bl_bs]; first | done | rfl, rfl, by omega, len_step ha hy1 hlen, cup_len hcl hy1 hwl, List.IsPrefix.trans hs1 hs3.pre⟩)
          omega
        · have hst := cup_first hy1 (by have h9 := of_decide_eq_false hc4; omega)
          refine CWp.skip ?_
          refine k15 _ _ ?_
          refine CWp.regionW [0, 4, 5] ?_
          refine VC.s rfl (RVs.move rfl rfl (fun _ => rfl) ?_)
          refine VC.s rfl (RVs.move rfl rfl (fun _ => rfl) ?_)
          refine VC.s rfl (RVs.move rfl rfl (fun _ => rfl) ?_)
          refine VC.s rfl (RVs.indexS rfl (hS.mono (hle (List.IsPrefix.trans hs2.pre (hs3.pre)))) rfl ElemOf.h rfl (fun _ => ⟨⟨rfl, rfl⟩, by omega, by omega⟩) ?_)
          intro id3 j3 u3 B3 e3
          obtain ⟨y3, hy3, e3⟩ := e3 rfl
          try simp only [Int.toNat_natCast] at hy3
          obtain ⟨rfl, hwy3⟩ := e3.r
          have e12 : y1 = y3 := Option.some.inj (hy1.symm.trans hy3)
          subst e12
          refine VC.s rfl (RVs.loadF (k := Kd.str) (f := 0) rfl TyOf.h rfl (fun _ => ⟨rfl, e3, by decide, rfl⟩) ?_)
          refine VC.s rfl (RVs.callp rfl rfl rfl (fun _ => ⟨⟨rfl, rfl⟩, l15Word y1 _ hlen⟩) ?_)
          refine VC.s rfl (RVs.bin rfl rfl rfl rfl (fun _ => ⟨⟨rfl, rfl⟩, by (try simp only [bl_bs]); (try simp); omega⟩) ?_)
          refine VC.s rfl (RVs.assign rfl rfl (fun _ => rfl) ?_)
          refine VC.nil (k11 ⟨39, [(0, _), (4, _), (5, _)]⟩ _ ?_)
          refine CWp.regionW [0, 4, 5] ?_
          refine VC.s rfl (RVs.move rfl rfl (fun _ => rfl) ?_)
          refine VC.s rfl (RVs.arith (r := ((i + 1 : Nat) : Int)) rfl rfl rfl (by (try simp only [bl_bs]); first | exact wrap_in (by omega) | (rw [wrap_in (by omega)]; omega)) rfl (fun _ => ⟨⟨rfl, rfl⟩, rfl⟩) ?_)
          refine VC.s rfl (RVs.assign rfl rfl (fun _ => rfl) ?_)
          refine VC.nil (k8 _ ⟨39, [(0, _), (4, _), (5, _)]⟩ _ ?_ ⟨i + 1, by rw [hst]; simp only [bl_bs]; first | done | rfl, rfl, by omega, len_step ha hy1 hlen, cup_len hcl hy1 hwl, List.IsPrefix.trans hs1 hs3.pre⟩)
          omega
    · try simp at hc2
      refine CWp.exit ?_
      refine k6 _ _ ?_
      refine CWp.seqK fun Kk17 k17 => ?_
      refine CWp.regionW [4] ?_
      refine VC.s rfl (RVs.move rfl rfl (fun _ => rfl) ?_)
      refine VC.s rfl (RVs.bin rfl rfl rfl rfl (fun _ => ⟨⟨rfl, rfl⟩, by (try simp only [bl_bs]); (try simp); omega⟩) ?_)
      refine VC.s rfl (RVs.assign rfl rfl (fun _ => rfl) ?_)
      refine VC.nil (k17 ⟨39, [(4, _)]⟩ _ ?_)
      refine CWp.seqK fun Kk18 k18 => ?_
      refine CWp.seqK fun Kk19 k19 => ?_
      refine CWp.regionW [4, 37] ?_
      refine VC.s rfl (RVs.move rfl rfl (fun _ => rfl) ?_)
      refine VC.s rfl (RVs.len_string rfl UnStr.h rfl (fun _ => rfl) ?_)
      refine VC.s rfl (RVs.bin rfl rfl rfl rfl (fun _ => ⟨⟨rfl, rfl⟩, rfl⟩) ?_)
      refine VC.nil (k19 ⟨39, [(4, _), (37, _)]⟩ _ ?_)
      refine CWp.condV rfl (fun hc5 => ?_) (fun hc5 => ?_)
      · have h5 : ¬ ((cup xs i ++ [13, 10]).length : Int) ≤ 300 := by
          have h9 : ((cup xs i ++ [13, 10]).length : Int) > 300 := of_decide_eq_true hc5
          omega
        refine CWp.seqK fun Kk20 k20 => ?_
        refine CWp.regionW [2, 3] ?_
        refine VC.s rfl (RVs.assign rfl rfl (fun _ => rfl) ?_)
        refine VC.s rfl (RVs.assign rfl rfl (fun _ => rfl) ?_)
        refine VC.nil (k20 ⟨39, [(2, _), (3, _)]⟩ _ ?_)
        refine CWp.ret (q _ _ _ (.cons (.tmp rfl) (.cons (.tmp rfl) .nil)) ?_).1
        exact ⟨by simp only [one]; rw [cmd_end hx ha (by omega), if_neg h5]; rfl, (List.IsPrefix.trans hs2.pre (hs3.pre))⟩
      · have h5 : ((cup xs i ++ [13, 10]).length : Int) ≤ 300 := by
          have h9 : ¬ ((cup xs i ++ [13, 10]).length : Int) > 300 := of_decide_eq_false hc5
          omega
        refine CWp.skip ?_
        refine k18 _ _ ?_
        refine CWp.seqK fun Kk21 k21 => ?_
        refine CWp.regionW [2, 3] ?_
        refine VC.s rfl (RVs.move rfl rfl (fun _ => rfl) ?_)
        refine VC.s rfl (RVs.assign rfl rfl (fun _ => rfl) ?_)
        refine VC.s rfl (RVs.assign rfl rfl (fun _ => rfl) ?_)
        refine VC.nil (k21 ⟨39, [(2, _), (3, _)]⟩ _ ?_)
        refine CWp.ret (q _ _ _ (.cons (.tmp rfl) (.cons (.tmp rfl) .nil)) ?_).1
        exact ⟨by simp only [one, bl_bs]; rw [cmd_end hx ha (by omega), if_pos h5]; rfl, (List.IsPrefix.trans hs2.pre (hs3.pre))⟩

theorem iCommandText (va : Value) (xs : List (List UInt8)) (H : AH) (hS : Kd.str.S H va xs) : FWp Tryd.prog 13 [va] H (fun v' H' => v' = .tuple #[.string (bs (commandText xs).1), .bool (commandText xs).2] ∧ H' = H) := by
  refine FWp.pure rfl fun H ph => ?_
  replace hS := hS.mono (hle ph)
  have hSl := hS.lim
  unfold lim at hSl
  obtain ⟨aa, ca, rfl, hSc⟩ := hS.form
  refine FWp.enterK Tryd.func13 rfl (by decide +kernel) rfl rfl fun Q q => ?_
  have hs0 := Sep.nil (H := H)
  refine CWp.seqK fun Kk1 k1 => ?_
  refine CWp.regionW [0] ?_
  refine VC.s rfl (RVs.assign rfl rfl (fun _ => rfl) ?_)
  refine VC.s rfl (RVs.assign rfl rfl (fun _ => rfl) ?_)
  refine VC.nil (k1 ⟨35, [(0, _)]⟩ _ ?_)
  refine CWp.seqK fun Kk2 k2 => ?_
  refine CWp.seqK fun Kk3 k3 => ?_
  refine CWp.regionW [0, 11] ?_
  refine VC.s rfl (RVs.move rfl rfl (fun _ => rfl) ?_)
  refine VC.s rfl (RVs.len_slice rfl UnSl.h rfl (fun _ => rfl) ?_)
  refine VC.s rfl (RVs.callp rfl rfl rfl (fun _ => ⟨⟨rfl, rfl⟩, within _ _ _ _⟩) ?_)
  refine VC.s rfl (RVs.not rfl rfl (fun _ => rfl) ?_)
  refine VC.nil (k3 ⟨35, [(0, _), (11, _)]⟩ _ ?_)
  refine CWp.condV rfl (fun hc1 => ?_) (fun hc1 => ?_)
  · have hx := of_decide_eq_false (nn1 hc1)
    refine CWp.seqK fun Kk4 k4 => ?_
    refine CWp.regionW [2, 3] ?_
    refine VC.s rfl (RVs.assign rfl rfl (fun _ => rfl) ?_)
    refine VC.s rfl (RVs.assign rfl rfl (fun _ => rfl) ?_)
    refine VC.nil (k4 ⟨35, [(2, _), (3, _)]⟩ _ ?_)
    refine CWp.ret (q _ _ _ (.cons (.tmp rfl) (.cons (.tmp rfl) .nil)) ?_).1
    exact ⟨by simp only [one]; rw [cmd_few hx]; rfl, (hs0.pre)⟩
  · have hx := of_decide_eq_true (nn0 hc1)
    refine CWp.skip ?_
    refine k2 _ _ ?_
    refine CWp.seqK fun Kk5 k5 => ?_
    refine CWp.regionW [0, 4] ?_
    refine VC.s rfl (RVs.buildS ElemOf.h ZeroOf.h rfl rfl rfl (by decide) rfl rfl rfl ?_)
    intro b1 H1 g1 l1 a1
    have hs1 := Sep.addE (k := Kd.str) hs0 g1 l1 a1 rfl
    refine VC.s rfl (RVs.assign rfl rfl (fun _ => rfl) ?_)
    refine VC.nil (k5 ⟨35, [(0, _), (4, _)]⟩ _ ?_)
    refine CWp.seqK fun Kk6 k6 => ?_
    refine CWp.seqK fun Kk7 k7 => ?_
    refine CWp.regionW [4, 13, 14, 15] ?_
    refine VC.s rfl (RVs.move rfl rfl (fun _ => rfl) ?_)
    refine VC.s rfl (RVs.len_slice rfl UnSl.h rfl (fun _ => rfl) ?_)
    refine VC.s rfl (RVs.move rfl rfl (fun _ => rfl) ?_)
    refine VC.nil (k7 ⟨35, [(4, _), (13, _), (14, _), (15, _)]⟩ _ ?_)
    refine CWp.block ?_
    refine CWp.loopK (fun n T H' => ∃ (i : Nat) (ao : Option Addr) (co : Nat), T = ⟨35, [(4, .slice ao ((xs.take i).map wordW).length co), (13, .slice aa xs.length ca), (14, .int .i64 (xs.length : Int)), (15, .int .i64 (i : Int))]⟩ ∧ n = xs.length - i ∧ (i ≤ xs.length) ∧ ((xs.take i).all (fun w => decide (w.length ≤ 300)) = true) ∧ ((cup xs i).length ≤ 10401 * i) ∧ Sep [] H H' [pOwn Kd.str 9 (.slice ao ((xs.take i).map wordW).length co) ((xs.take i).map wordW)]) (n := xs.length) ⟨0, _, _, rfl, by first | rfl | simp, by omega, by simp, by simp [cup0], hs1⟩ ?_
    rintro n T Hl1 Kk8 k8 ⟨i, ao, co, rfl, hn1, hi, ha, hcl, hs2⟩
    refine CWp.seqK fun Kk9 k9 => ?_
    refine CWp.regionW [4, 13, 14, 15, 16] ?_
    refine VC.s rfl (RVs.bin rfl rfl rfl rfl (fun _ => ⟨⟨rfl, rfl⟩, rfl⟩) ?_)
    refine VC.nil (k9 ⟨35, [(4, _), (13, _), (14, _), (15, _), (16, _)]⟩ _ ?_)
    refine CWp.seqK fun Kk10 k10 => ?_
    refine CWp.condV rfl (fun hc2 => ?_) (fun hc2 => ?_)
    · try simp at hc2
      refine CWp.skip ?_
      refine k10 _ _ ?_
      refine CWp.seqK fun Kk11 k11 => ?_
      refine CWp.block ?_
      refine CWp.seqK fun Kk12 k12 => ?_
      refine CWp.regionW [4, 6, 13, 14, 15] ?_
      refine VC.s rfl (RVs.indexS rfl (hS.mono (hle (hs2.pre))) rfl ElemOf.h rfl (fun _ => ⟨⟨rfl, rfl⟩, by omega, by omega⟩) ?_)
      intro id1 j1 u1 B1 e1
      obtain ⟨y1, hy1, e1⟩ := e1 rfl
      try simp only [Int.toNat_natCast] at hy1
      obtain ⟨rfl, hwy1⟩ := e1.r
      refine VC.s rfl (RVs.loadF (k := Kd.str) (f := 0) rfl TyOf.h rfl (fun _ => ⟨rfl, e1, by decide, rfl⟩) ?_)
      refine VC.s rfl (RVs.assign rfl rfl (fun _ => rfl) ?_)
      refine VC.nil (k12 ⟨35, [(4, _), (6, _), (13, _), (14, _), (15, _)]⟩ _ ?_)
      refine CWp.seqK fun Kk13 k13 => ?_
      refine CWp.seqK fun Kk14 k14 => ?_
      refine CWp.regionW [4, 6, 13, 14, 15, 21] ?_
      refine VC.s rfl (RVs.move rfl rfl (fun _ => rfl) ?_)
      refine VC.s rfl (RVs.len_string rfl UnStr.h rfl (fun _ => rfl) ?_)
      refine VC.s rfl (RVs.bin rfl rfl rfl rfl (fun _ => ⟨⟨rfl, rfl⟩, rfl⟩) ?_)
      refine VC.nil (k14 ⟨35, [(4, _), (6, _), (13, _), (14, _), (15, _), (21, _)]⟩ _ ?_)
      refine CWp.condV rfl (fun hc3 => ?_) (fun hc3 => ?_)
      · have hlen : 300 < y1.length := by have h9 := of_decide_eq_true hc3; simp only [bl_bs] at h9; omega
        refine CWp.seqK fun Kk15 k15 => ?_
        refine CWp.regionW [2, 3] ?_
        refine VC.s rfl (RVs.assign rfl rfl (fun _ => rfl) ?_)
        refine VC.s rfl (RVs.assign rfl rfl (fun _ => rfl) ?_)
        refine VC.nil (k15 ⟨35, [(2, _), (3, _)]⟩ _ ?_)
        refine CWp.ret (q _ _ _ (.cons (.tmp rfl) (.cons (.tmp rfl) .nil)) ?_).1
        exact ⟨by simp only [one]; rw [cmd_bad hy1 hlen]; rfl, (hs2.pre)⟩
      · have hlen : y1.length ≤ 300 := by have h9 := of_decide_eq_false hc3; simp only [bl_bs] at h9; omega
        have hwl := wordW_len hlen
        refine CWp.skip ?_
        refine k13 _ _ ?_
        refine CWp.regionW [4, 13, 14, 15] ?_
        refine VC.s rfl (RVs.move rfl rfl (fun _ => rfl) ?_)
        refine VC.s rfl (RVs.move rfl rfl (fun _ => rfl) ?_)
        refine VC.s rfl (RVs.callp rfl rfl rfl (fun _ => ⟨⟨rfl, rfl⟩, wordText y1 _ hlen⟩) ?_)
        refine VC.s rfl (RVs.buildS ElemOf.h ZeroOf.h rfl rfl rfl (by decide) rfl rfl rfl ?_)
        intro b2 H2 g2 l2 a2
        have hs3 := Sep.grow hs2 g2
        refine VC.s rfl (RVs.appendZ (k := Kd.str) (zs := (xs.take (i + 1)).map wordW) str_Flat (i := 0) hs3 rfl rfl rfl ElemOf.h ElOk.h UnSl.h rfl rfl rfl ⟨rfl, rfl⟩ (lit_S (k := Kd.str) (xs := [wordW y1]) a2 (Kd.Rs.one ⟨rfl, Nat.le_trans hwl (by decide)⟩) rfl (by decide)) (by rw [take_snoc hy1, List.map_append]; rfl) (small_of (by simp; omega) (by decide)) ?_)
        intro ad1 cp1 H3 hcp1 hs4
        refine VC.s rfl (RVs.assign rfl rfl (fun _ => rfl) ?_)
        refine VC.nil (k11 ⟨35, [(4, _), (13, _), (14, _), (15, _)]⟩ _ ?_)
        refine CWp.regionW [4, 13, 14, 15] ?_
        refine VC.s rfl (RVs.arith (r := ((i + 1 : Nat) : Int)) rfl rfl rfl (by (try simp only [bl_bs]); first | exact wrap_in (by omega) | (rw [wrap_in (by omega)]; omega)) rfl (fun _ => ⟨⟨rfl, rfl⟩, rfl⟩) ?_)
        refine VC.s rfl (RVs.move rfl rfl (fun _ => rfl) ?_)
        refine VC.nil (k8 _ ⟨35, [(4, _), (13, _), (14, _), (15, _)]⟩ _ ?_ ⟨i + 1, _, _, rfl, rfl, by omega, len_step ha hy1 hlen, cup_len hcl hy1 hwl, hs4⟩)
        omega
    · try simp at hc2
      refine CWp.exit ?_
      refine k6 _ _ ?_
      refine CWp.seqK fun Kk16 k16 => ?_
      refine CWp.regionW [7] ?_
      refine VC.s rfl (RVs.move rfl rfl (fun _ => rfl) ?_)
      refine VC.s rfl (RVs.callp rfl rfl rfl (fun _ => ⟨⟨rfl, rfl⟩, joinS _ _ [32] _ (Sep.S (i := 0) hs2 rfl) (by simp; omega) (by have h9 := hcl; unfold cup at h9; omega)⟩) ?_)
      refine VC.s rfl (RVs.bin rfl rfl rfl rfl (fun _ => ⟨⟨rfl, rfl⟩, by have h9 := hcl; unfold cup at h9; simp only [bl_bs]; have h8 : (bl ⟨#[13, 10]⟩).length = 2 := rfl; omega⟩) ?_)
      refine VC.s rfl (RVs.assign rfl rfl (fun _ => rfl) ?_)
      refine VC.nil (k16 ⟨35, [(7, _)]⟩ _ ?_)
      refine CWp.seqK fun Kk17 k17 => ?_
      refine CWp.seqK fun Kk18 k18 => ?_
      refine CWp.regionW [7, 33] ?_
      refine VC.s rfl (RVs.move rfl rfl (fun _ => rfl) ?_)
      refine VC.s rfl (RVs.len_string rfl UnStr.h rfl (fun _ => rfl) ?_)
      refine VC.s rfl (RVs.bin rfl rfl rfl rfl (fun _ => ⟨⟨rfl, rfl⟩, rfl⟩) ?_)
      refine VC.nil (k18 ⟨35, [(7, _), (33, _)]⟩ _ ?_)
      refine CWp.condV rfl (fun hc4 => ?_) (fun hc4 => ?_)
      · have h5 : ¬ ((cup xs i ++ [13, 10]).length : Int) ≤ 300 := by
          have h9 : ((cup xs i ++ [13, 10]).length : Int) > 300 := of_decide_eq_true hc4
          omega
        refine CWp.seqK fun Kk19 k19 => ?_
        refine CWp.regionW [2, 3] ?_
        refine VC.s rfl (RVs.assign rfl rfl (fun _ => rfl) ?_)
        refine VC.s rfl (RVs.assign rfl rfl (fun _ => rfl) ?_)
        refine VC.nil (k19 ⟨35, [(2, _), (3, _)]⟩ _ ?_)
        refine CWp.ret (q _ _ _ (.cons (.tmp rfl) (.cons (.tmp rfl) .nil)) ?_).1
        exact ⟨by simp only [one]; rw [cmd_end hx ha (by omega), if_neg h5]; rfl, (hs2.pre)⟩
      · have h5 : ((cup xs i ++ [13, 10]).length : Int) ≤ 300 := by
          have h9 : ¬ ((cup xs i ++ [13, 10]).length : Int) > 300 := of_decide_eq_false hc4
          omega
        refine CWp.skip ?_
        refine k17 _ _ ?_
        refine CWp.seqK fun Kk20 k20 => ?_
        refine CWp.regionW [2, 3] ?_
        refine VC.s rfl (RVs.move rfl rfl (fun _ => rfl) ?_)
        refine VC.s rfl (RVs.assign rfl rfl (fun _ => rfl) ?_)
        refine VC.s rfl (RVs.assign rfl rfl (fun _ => rfl) ?_)
        refine VC.nil (k20 ⟨35, [(2, _), (3, _)]⟩ _ ?_)
        refine CWp.ret (q _ _ _ (.cons (.tmp rfl) (.cons (.tmp rfl) .nil)) ?_).1
        exact ⟨by simp only [one, bl_bs]; rw [cmd_end hx ha (by omega), if_pos h5]; rfl, (hs2.pre)⟩

theorem law (va : Value) (xs : List (List UInt8)) (H : AH) (hS : Kd.str.S H va xs) : FWp Tryd.prog 4 [va] H (fun v' H' => v' = .bool true) := by
  refine FWp.enterK Tryd.func4 rfl (by decide +kernel) rfl rfl fun Q q => ?_
  have hs0 := Sep.nil (H := H)
  refine CWp.seqK fun Kk1 k1 => ?_
  refine CWp.regionW [0] ?_
  refine VC.s rfl (RVs.assign rfl rfl (fun _ => rfl) ?_)
  refine VC.nil (k1 ⟨40, [(0, _)]⟩ _ ?_)
  refine CWp.seqK fun Kk2 k2 => ?_
  refine CWp.regionW [0, 3] ?_
  refine VC.s rfl (RVs.assign rfl rfl (fun _ => rfl) ?_)
  refine VC.nil (k2 ⟨40, [(0, _), (3, _)]⟩ _ ?_)
  refine CWp.seqK fun Kk3 k3 => ?_
  refine CWp.regionW [0, 3] ?_
  refine VC.s rfl (RVs.move rfl rfl (fun _ => rfl) ?_)
  refine VC.s rfl (RVs.move rfl rfl (fun _ => rfl) ?_)
  refine VC.s rfl (RVs.callp rfl rfl rfl (fun _ => ⟨⟨rfl, rfl⟩, szStringS _ _ _ _ (hS.mono (hle (hs0.pre))) (by decide) (by decide)⟩) ?_)
  refine VC.s rfl (RVs.assign rfl rfl (fun _ => rfl) ?_)
  refine VC.nil (k3 ⟨40, [(0, _), (3, _)]⟩ _ ?_)
  refine CWp.seqK fun Kk4 k4 => ?_
  refine CWp.seqK fun Kk5 k5 => ?_
  refine CWp.regionW [0, 13] ?_
  refine VC.s rfl (RVs.move rfl rfl (fun _ => rfl) ?_)
  refine VC.s rfl (RVs.bin rfl rfl rfl rfl (fun _ => ⟨⟨rfl, rfl⟩, rfl⟩) ?_)
  refine VC.nil (k5 ⟨40, [(0, _), (13, _)]⟩ _ ?_)
  refine CWp.condV rfl (fun hc1 => ?_) (fun hc1 => ?_)
  · skip
    refine CWp.seqK fun Kk6 k6 => ?_
    refine CWp.regionW [2] ?_
    refine VC.s rfl (RVs.assign rfl rfl (fun _ => rfl) ?_)
    refine VC.nil (k6 ⟨40, [(2, _)]⟩ _ ?_)
    refine CWp.ret (q _ _ _ (.cons (.tmp rfl) .nil) ?_).1
    rfl
  · have hn := szStr_n (of_decide_eq_false hc1)
    refine CWp.skip ?_
    refine k4 _ _ ?_
    refine CWp.seqK fun Kk7 k7 => ?_
    refine CWp.regionW [0, 4, 5] ?_
    refine VC.s rfl (RVs.move rfl rfl (fun _ => rfl) ?_)
    refine VC.s rfl (RVs.call rfl rfl rfl rfl ⟨rfl, rfl⟩ (toStringS _ _ _ (hS.mono (hle (hs0.pre))) hn) (.inr fun _ _ h => h.1) ?_)
    rintro v1 H1 f1
    have g1 := (Fresh.P f1).1
    have hs1 := Sep.addP hs0 (Fresh.P f1)
    refine VC.s rfl (RVs.callp rfl rfl rfl (fun _ => ⟨⟨rfl, rfl⟩, sCommandText _ _ _ (Sep.VS (i := 0) hs1 rfl)⟩) ?_)
    refine VC.s rfl (RVs.move rfl rfl (fun _ => rfl) ?_)
    refine VC.s rfl (RVs.extract rfl rfl rfl (fun _ => rfl) ?_)
    refine VC.s rfl (RVs.extract rfl rfl rfl (fun _ => rfl) ?_)
    refine VC.s rfl (RVs.assign rfl rfl (fun _ => rfl) ?_)
    refine VC.s rfl (RVs.assign rfl rfl (fun _ => rfl) ?_)
    refine VC.nil (k7 ⟨40, [(0, _), (4, _), (5, _)]⟩ _ ?_)
    refine CWp.seqK fun Kk8 k8 => ?_
    refine CWp.regionW [0, 4, 5, 6] ?_
    refine VC.s rfl (RVs.move rfl rfl (fun _ => rfl) ?_)
    refine VC.s rfl (RVs.call rfl rfl rfl rfl ⟨rfl, rfl⟩ (toStringS _ _ _ (hS.mono (hle (hs1.pre))) hn) (.inr fun _ _ h => h.1) ?_)
    rintro v2 H2 f2
    have g2 := (Fresh.P f2).1
    have hs2 := Sep.addP hs1 (Fresh.P f2)
    refine VC.s rfl (RVs.assign rfl rfl (fun _ => rfl) ?_)
    refine VC.nil (k8 ⟨40, [(0, _), (4, _), (5, _), (6, _)]⟩ _ ?_)
    refine CWp.seqK fun Kk9 k9 => ?_
    refine CWp.regionW [0, 4, 5, 6, 7, 8] ?_
    refine VC.s rfl (RVs.move rfl rfl (fun _ => rfl) ?_)
    refine VC.s rfl (RVs.callp rfl rfl rfl (fun _ => ⟨⟨rfl, rfl⟩, iCommandText _ _ _ (Sep.VS (i := 0) hs2 rfl)⟩) ?_)
    refine VC.s rfl (RVs.move rfl rfl (fun _ => rfl) ?_)
    refine VC.s rfl (RVs.extract rfl rfl rfl (fun _ => rfl) ?_)
    refine VC.s rfl (RVs.extract rfl rfl rfl (fun _ => rfl) ?_)
    refine VC.s rfl (RVs.assign rfl rfl (fun _ => rfl) ?_)
    refine VC.s rfl (RVs.assign rfl rfl (fun _ => rfl) ?_)
    refine VC.nil (k9 ⟨40, [(0, _), (4, _), (5, _), (6, _), (7, _), (8, _)]⟩ _ ?_)
    refine CWp.seqK fun Kk10 k10 => ?_
    refine CWp.seqK fun Kk11 k11 => ?_
    refine CWp.regionW [0, 6, 34] ?_
    refine VC.s rfl (RVs.move rfl rfl (fun _ => rfl) ?_)
    refine VC.s rfl (RVs.move rfl rfl (fun _ => rfl) ?_)
    refine VC.s rfl (RVs.bin rfl rfl rfl rfl (fun _ => ⟨⟨rfl, rfl⟩, trivial⟩) ?_)
    refine VC.s rfl (RVs.move rfl rfl (fun _ => rfl) ?_)
    refine VC.s rfl (RVs.move rfl rfl (fun hg => rfl) ?_)
    refine VC.s rfl (RVs.move rfl rfl (fun hg => rfl) ?_)
    refine VC.s rfl (RVs.ne_bool rfl rfl UnBool.h rfl (fun hg => ⟨hg, hg⟩) ?_)
    refine VC.s rfl (RVs.pick rfl rfl rfl rfl (fun hg => ⟨rfl, fun _ => rfl, fun hh => pk_f hh rfl⟩) ?_)
    refine VC.nil (k11 ⟨40, [(0, _), (6, _), (34, _)]⟩ _ ?_)
    refine CWp.condV rfl (fun hc2 => ?_) (fun hc2 => ?_)
    · simp at hc2
    · try simp at hc2
      refine CWp.skip ?_
      refine k10 _ _ ?_
      refine CWp.seqK fun Kk12 k12 => ?_
      refine CWp.seqK fun Kk13 k13 => ?_
      refine CWp.regionW [39] ?_
      refine VC.s rfl (RVs.move rfl rfl (fun _ => rfl) ?_)
      refine VC.s rfl (RVs.move rfl rfl (fun _ => rfl) ?_)
      refine VC.s rfl (RVs.call rfl rfl rfl rfl ⟨rfl, rfl⟩ (toStringS _ _ _ (hS.mono (hle (hs2.pre))) hn) (.inr fun _ _ h => h.1) ?_)
      rintro v3 H3 f3
      have g3 := (Fresh.P f3).1
      have hs3 := Sep.addP hs2 (Fresh.P f3)
      refine VC.s rfl (RVs.callp rfl rfl rfl (fun _ => ⟨⟨rfl, rfl⟩, eqStringS _ _ _ _ _ (Sep.VS (i := 1) hs3 rfl) (Sep.VS (i := 0) hs3 rfl)⟩) ?_)
      refine VC.s rfl (RVs.not rfl rfl (fun _ => rfl) ?_)
      refine VC.nil (k13 ⟨40, [(39, _)]⟩ _ ?_)
      refine CWp.condV rfl (fun hc3 => ?_) (fun hc3 => ?_)
      · simp at hc3
      · try simp at hc3
        refine CWp.skip ?_
        refine k12 _ _ ?_
        refine CWp.seqK fun Kk14 k14 => ?_
        refine CWp.regionW [2] ?_
        refine VC.s rfl (RVs.assign rfl rfl (fun _ => rfl) ?_)
        refine VC.nil (k14 ⟨40, [(2, _)]⟩ _ ?_)
        refine CWp.ret (q _ _ _ (.cons (.tmp rfl) .nil) ?_).1
        rfl

end Go.Proofs.YtaccaelocddakaaDoor
