/- The walks of the functions that mark lines, look for marks, and copy views. -/
import Derived.Test.YtaccaelocddakaaBT5
namespace Go.Proofs.Ytaccaelocddakaa
open Go Go.RowKit
set_option linter.unusedVariables false
set_option maxRecDepth 20000
variable [Tabs]

theorem markRangeNil (k : Int) (H : AH) : FWp Try.prog 34 [.slice none 0 0, .int .i64 k] H (fun v' H' => v' = .int .i64 k ∧ H' = H) := by
  refine FWp.pure rfl fun H ph => ?_
  refine FWp.enterK Try.func34 rfl (by decide +kernel) rfl rfl fun Q q => ?_
  have hs0 := Sep.nil (H := H)
  refine CWp.seqK fun Kk1 k1 => ?_
  refine CWp.regionW [0, 1] ?_
  refine VC.s rfl (RVs.assign rfl rfl (fun _ => rfl) ?_)
  refine VC.nil (k1 ⟨27, [(0, _), (1, _)]⟩ _ ?_)
  refine CWp.seqK fun Kk2 k2 => ?_
  refine CWp.seqK fun Kk3 k3 => ?_
  refine CWp.regionW [0, 1, 5] ?_
  refine VC.s rfl (RVs.assign rfl rfl (fun _ => rfl) ?_)
  refine VC.nil (k3 ⟨27, [(0, _), (1, _), (5, _)]⟩ _ ?_)
  refine CWp.block ?_
  refine CWp.loopK (fun n T H' => ∃ i : Nat, T = ⟨27, [(0, .slice none 0 0), (1, .int .i64 k), (5, .int .i64 (i : Int))]⟩ ∧ n = i ∧ H <+: H') (n := 0) ⟨0, rfl, by first | rfl | simp, List.prefix_refl _⟩ ?_
  rintro n T Hl1 Kk4 k4 ⟨i, rfl, hn1, hs1⟩
  have hs2 := Sep.grow hs0 hs1
  have hs3 := Sep.nil (H := Hl1)
  refine CWp.seqK fun Kk5 k5 => ?_
  refine CWp.seqK fun Kk6 k6 => ?_
  refine CWp.regionW [0, 1, 5, 9] ?_
  refine VC.s rfl (RVs.move rfl rfl (fun _ => rfl) ?_)
  refine VC.s rfl (RVs.move rfl rfl (fun _ => rfl) ?_)
  refine VC.s rfl (RVs.len_slice rfl UnSl.h rfl (fun _ => rfl) ?_)
  refine VC.s rfl (RVs.bin rfl rfl rfl rfl (fun _ => ⟨⟨rfl, rfl⟩, rfl⟩) ?_)
  refine VC.nil (k6 ⟨27, [(0, _), (1, _), (5, _), (9, _)]⟩ _ ?_)
  refine CWp.condV rfl (fun hc1 => ?_) (fun hc1 => ?_)
  · exact absurd (of_decide_eq_true hc1) (by omega)
  · try simp at hc1
    refine CWp.exit ?_
    refine k2 _ _ ?_
    refine CWp.seqK fun Kk7 k7 => ?_
    refine CWp.regionW [4] ?_
    refine VC.s rfl (RVs.move rfl rfl (fun _ => rfl) ?_)
    refine VC.s rfl (RVs.assign rfl rfl (fun _ => rfl) ?_)
    refine VC.nil (k7 ⟨27, [(4, _)]⟩ _ ?_)
    refine CWp.ret (q _ _ _ (.cons (.tmp rfl) .nil) ?_).1
    exact ⟨rfl, (List.IsPrefix.trans hs2.pre (hs3.pre))⟩

theorem heldRangeNil (k : Int) (H : AH) : FWp Try.prog 35 [.slice none 0 0, .int .i64 k] H (fun v' H' => v' = .int .i64 k ∧ H' = H) := by
  refine FWp.pure rfl fun H ph => ?_
  refine FWp.enterK Try.func35 rfl (by decide +kernel) rfl rfl fun Q q => ?_
  have hs0 := Sep.nil (H := H)
  refine CWp.seqK fun Kk1 k1 => ?_
  refine CWp.regionW [0, 1] ?_
  refine VC.s rfl (RVs.assign rfl rfl (fun _ => rfl) ?_)
  refine VC.nil (k1 ⟨31, [(0, _), (1, _)]⟩ _ ?_)
  refine CWp.seqK fun Kk2 k2 => ?_
  refine CWp.seqK fun Kk3 k3 => ?_
  refine CWp.regionW [0, 1, 5] ?_
  refine VC.s rfl (RVs.assign rfl rfl (fun _ => rfl) ?_)
  refine VC.nil (k3 ⟨31, [(0, _), (1, _), (5, _)]⟩ _ ?_)
  refine CWp.block ?_
  refine CWp.loopK (fun n T H' => ∃ i : Nat, T = ⟨31, [(0, .slice none 0 0), (1, .int .i64 k), (5, .int .i64 (i : Int))]⟩ ∧ n = i ∧ H <+: H') (n := 0) ⟨0, rfl, by first | rfl | simp, List.prefix_refl _⟩ ?_
  rintro n T Hl1 Kk4 k4 ⟨i, rfl, hn1, hs1⟩
  have hs2 := Sep.grow hs0 hs1
  have hs3 := Sep.nil (H := Hl1)
  refine CWp.seqK fun Kk5 k5 => ?_
  refine CWp.seqK fun Kk6 k6 => ?_
  refine CWp.regionW [0, 1, 5, 9] ?_
  refine VC.s rfl (RVs.move rfl rfl (fun _ => rfl) ?_)
  refine VC.s rfl (RVs.move rfl rfl (fun _ => rfl) ?_)
  refine VC.s rfl (RVs.len_slice rfl UnSl.h rfl (fun _ => rfl) ?_)
  refine VC.s rfl (RVs.bin rfl rfl rfl rfl (fun _ => ⟨⟨rfl, rfl⟩, rfl⟩) ?_)
  refine VC.nil (k6 ⟨31, [(0, _), (1, _), (5, _), (9, _)]⟩ _ ?_)
  refine CWp.condV rfl (fun hc1 => ?_) (fun hc1 => ?_)
  · exact absurd (of_decide_eq_true hc1) (by omega)
  · try simp at hc1
    refine CWp.exit ?_
    refine k2 _ _ ?_
    refine CWp.seqK fun Kk7 k7 => ?_
    refine CWp.regionW [4] ?_
    refine VC.s rfl (RVs.move rfl rfl (fun _ => rfl) ?_)
    refine VC.s rfl (RVs.assign rfl rfl (fun _ => rfl) ?_)
    refine VC.nil (k7 ⟨31, [(4, _)]⟩ _ ?_)
    refine CWp.ret (q _ _ _ (.cons (.tmp rfl) .nil) ?_).1
    exact ⟨rfl, (List.IsPrefix.trans hs2.pre (hs3.pre))⟩

theorem markLineS (va : Value) (xs : List Line) (k : Int) (F : List Nat) (H : AH) (hW : kLine0.slice.W H [va] xs F) (nd : F.Nodup) (h0 : 0 ≤ k) (h1 : k + 6 * xs.length ≤ 4611686018427387904) : FWp Try.prog 15 [va, .int .i64 k] H (fun v' H' => v' = .int .i64 (k + 6 * xs.length) ∧ Chg H H' F ∧ ∃ F', (pVal kLine0.slice [va] (marks (fun (i : Nat) => (⟨k + 6 * (i : Int), (k + 6 * (i : Int) + 1), (k + 6 * (i : Int) + 2), (k + 6 * (i : Int) + 3), (k + 6 * (i : Int) + 4), [], (decide (Int.tmod (k + 6 * (i : Int) + 5) 3 = 0))⟩ : Line)) xs.length)).A H' F' ∧ F'.Nodup ∧ ∀ j ∈ F', j ∈ F ∨ H.length ≤ j) := by
  have hl := (slW hW).S.lim
  unfold lim at hl
  obtain ⟨aa, ca, rfl, hca⟩ := (slW hW).S.form
  refine FWp.enterK Try.func15 rfl (by decide +kernel) rfl rfl fun Q q => ?_
  have hs0 := Sep.start (p := pVal kLine0.slice [.slice aa xs.length ca] xs) hW nd
  refine CWp.seqK fun Kk1 k1 => ?_
  refine CWp.regionW [0, 1] ?_
  refine VC.s rfl (RVs.assign rfl rfl (fun _ => rfl) ?_)
  refine VC.nil (k1 ⟨64, [(0, _), (1, _)]⟩ _ ?_)
  refine CWp.seqK fun Kk2 k2 => ?_
  refine CWp.seqK fun Kk3 k3 => ?_
  refine CWp.regionW [0, 1, 5] ?_
  refine VC.s rfl (RVs.assign rfl rfl (fun _ => rfl) ?_)
  refine VC.nil (k3 ⟨64, [(0, _), (1, _), (5, _)]⟩ _ ?_)
  refine CWp.block ?_
  refine CWp.loopK (fun n T H' => ∃ i : Nat, T = ⟨64, [(0, .slice aa xs.length ca), (1, .int .i64 (k + 6 * (i : Int))), (5, .int .i64 (i : Int))]⟩ ∧ n = xs.length - i ∧ (i ≤ xs.length) ∧ Sep F H H' [pVal kLine0.slice [.slice aa xs.length ca] (marks (fun (i : Nat) => (⟨k + 6 * (i : Int), (k + 6 * (i : Int) + 1), (k + 6 * (i : Int) + 2), (k + 6 * (i : Int) + 3), (k + 6 * (i : Int) + 4), [], (decide (Int.tmod (k + 6 * (i : Int) + 5) 3 = 0))⟩ : Line)) i ++ xs.drop i)]) (n := xs.length) ⟨0, by simp, by first | rfl | simp, by omega, by simpa [marks] using hs0⟩ ?_
  rintro n T Hl1 Kk4 k4 ⟨i, rfl, hn1, hi, hs1⟩
  refine CWp.seqK fun Kk5 k5 => ?_
  refine CWp.seqK fun Kk6 k6 => ?_
  refine CWp.regionW [0, 1, 5, 9] ?_
  refine VC.s rfl (RVs.move rfl rfl (fun _ => rfl) ?_)
  refine VC.s rfl (RVs.move rfl rfl (fun _ => rfl) ?_)
  refine VC.s rfl (RVs.len_slice rfl UnSl.h rfl (fun _ => rfl) ?_)
  refine VC.s rfl (RVs.bin rfl rfl rfl rfl (fun _ => ⟨⟨rfl, rfl⟩, rfl⟩) ?_)
  refine VC.nil (k6 ⟨64, [(0, _), (1, _), (5, _), (9, _)]⟩ _ ?_)
  refine CWp.condV rfl (fun hc1 => ?_) (fun hc1 => ?_)
  · have hlt : i < xs.length := by first | exact_mod_cast of_decide_eq_true hc1 | (have h9 := of_decide_eq_true hc1; omega)
    obtain ⟨y0, hy0⟩ : ∃ y0, xs[i]? = some y0 := ⟨_, List.getElem?_eq_getElem hlt⟩
    refine CWp.skip ?_
    refine k5 _ _ ?_
    refine CWp.seqK fun Kk7 k7 => ?_
    refine CWp.block ?_
    refine CWp.seqK fun Kk8 k8 => ?_
    refine CWp.regionW [0, 1, 5] ?_
    refine VC.s rfl (RVs.move rfl rfl (fun _ => rfl) ?_)
    refine VC.s rfl (RVs.move rfl rfl (fun _ => rfl) ?_)
    refine VC.s rfl (RVs.move rfl rfl (fun _ => rfl) ?_)
    refine VC.s rfl (RVs.indexE (k := kLine0) (i := i) rfl (Sep.VS (i := 0) hs1 rfl) rfl ElemOf.h rfl rfl ⟨rfl, rfl⟩ (by (try rw [List.length_set]); rw [marks_len2 (by omega)]; omega) ?_)
    intro id1 j1 ept1
    refine VC.s rfl (RVs.fieldAddr rfl FieldOf.h (by decide) rfl (fun _ => rfl) ?_)
    refine VC.s rfl (RVs.storeE (k := kLine0) (f := 0) (x0 := y0) (y := (⟨k + 6 * (i : Int), y0.num, y0.uid, y0.flags, y0.mod, [], y0.all⟩ : Line)) (zs := (marks (fun (i : Nat) => (⟨k + 6 * (i : Int), (k + 6 * (i : Int) + 1), (k + 6 * (i : Int) + 2), (k + 6 * (i : Int) + 3), (k + 6 * (i : Int) + 4), [], (decide (Int.tmod (k + 6 * (i : Int) + 5) 3 = 0))⟩ : Line)) i ++ xs.drop i).set i (⟨k + 6 * (i : Int), y0.num, y0.uid, y0.flags, y0.mod, [], y0.all⟩ : Line)) Kd.flat_Flat (q := 0) hs1 rfl ept1 rfl rfl TyOf.h rfl rfl rfl ⟨rfl, rfl⟩ (marks_mid.trans hy0) (by decide) (by rintro u ⟨rfl, hw⟩; exact ⟨rfl, rfl⟩) rfl (rfl) ?_)
    intro H1 hs2
    refine VC.nil (k8 ⟨64, [(0, _), (1, _), (5, _)]⟩ _ ?_)
    refine CWp.seqK fun Kk9 k9 => ?_
    refine CWp.regionW [0, 1, 5] ?_
    refine VC.s rfl (RVs.move rfl rfl (fun _ => rfl) ?_)
    refine VC.s rfl (RVs.arith (r := (k + 6 * (i : Int) + 1)) rfl rfl rfl (by (try simp only [bl_bs]); first | exact wrap_in (by omega) | (rw [wrap_in (by omega)]; omega)) rfl (fun _ => ⟨⟨rfl, rfl⟩, rfl⟩) ?_)
    refine VC.s rfl (RVs.assign rfl rfl (fun _ => rfl) ?_)
    refine VC.nil (k9 ⟨64, [(0, _), (1, _), (5, _)]⟩ _ ?_)
    refine CWp.seqK fun Kk10 k10 => ?_
    refine CWp.regionW [0, 1, 5] ?_
    refine VC.s rfl (RVs.move rfl rfl (fun _ => rfl) ?_)
    refine VC.s rfl (RVs.move rfl rfl (fun _ => rfl) ?_)
    refine VC.s rfl (RVs.move rfl rfl (fun _ => rfl) ?_)
    refine VC.s rfl (RVs.indexE (k := kLine0) (i := i) rfl (Sep.VS (i := 0) hs2 rfl) rfl ElemOf.h rfl rfl ⟨rfl, rfl⟩ (by (try rw [List.length_set]); rw [marks_len2 (by omega)]; omega) ?_)
    intro id2 j2 ept2
    refine VC.s rfl (RVs.fieldAddr rfl FieldOf.h (by decide) rfl (fun _ => rfl) ?_)
    refine VC.s rfl (RVs.storeE (k := kLine0) (f := 1) (x0 := (⟨k + 6 * (i : Int), y0.num, y0.uid, y0.flags, y0.mod, [], y0.all⟩ : Line)) (y := (⟨k + 6 * (i : Int), (k + 6 * (i : Int) + 1), y0.uid, y0.flags, y0.mod, [], y0.all⟩ : Line)) (zs := (marks (fun (i : Nat) => (⟨k + 6 * (i : Int), (k + 6 * (i : Int) + 1), (k + 6 * (i : Int) + 2), (k + 6 * (i : Int) + 3), (k + 6 * (i : Int) + 4), [], (decide (Int.tmod (k + 6 * (i : Int) + 5) 3 = 0))⟩ : Line)) i ++ xs.drop i).set i (⟨k + 6 * (i : Int), (k + 6 * (i : Int) + 1), y0.uid, y0.flags, y0.mod, [], y0.all⟩ : Line)) Kd.flat_Flat (q := 0) hs2 rfl ept2 rfl rfl TyOf.h rfl rfl rfl ⟨rfl, rfl⟩ (List.getElem?_set_self (by rw [marks_len2 (by omega)]; omega)) (by decide) (by rintro u ⟨rfl, hw⟩; exact ⟨rfl, rfl⟩) rfl (List.set_set ..) ?_)
    intro H2 hs3
    refine VC.nil (k10 ⟨64, [(0, _), (1, _), (5, _)]⟩ _ ?_)
    refine CWp.seqK fun Kk11 k11 => ?_
    refine CWp.regionW [0, 1, 5] ?_
    refine VC.s rfl (RVs.move rfl rfl (fun _ => rfl) ?_)
    refine VC.s rfl (RVs.arith (r := (k + 6 * (i : Int) + 2)) rfl rfl rfl (by (try simp only [bl_bs]); first | exact wrap_in (by omega) | (rw [wrap_in (by omega)]; omega)) rfl (fun _ => ⟨⟨rfl, rfl⟩, rfl⟩) ?_)
    refine VC.s rfl (RVs.assign rfl rfl (fun _ => rfl) ?_)
    refine VC.nil (k11 ⟨64, [(0, _), (1, _), (5, _)]⟩ _ ?_)
    refine CWp.seqK fun Kk12 k12 => ?_
    refine CWp.regionW [0, 1, 5] ?_
    refine VC.s rfl (RVs.move rfl rfl (fun _ => rfl) ?_)
    refine VC.s rfl (RVs.move rfl rfl (fun _ => rfl) ?_)
    refine VC.s rfl (RVs.move rfl rfl (fun _ => rfl) ?_)
    refine VC.s rfl (RVs.indexE (k := kLine0) (i := i) rfl (Sep.VS (i := 0) hs3 rfl) rfl ElemOf.h rfl rfl ⟨rfl, rfl⟩ (by (try rw [List.length_set]); rw [marks_len2 (by omega)]; omega) ?_)
    intro id3 j3 ept3
    refine VC.s rfl (RVs.fieldAddr rfl FieldOf.h (by decide) rfl (fun _ => rfl) ?_)
    refine VC.s rfl (RVs.storeE (k := kLine0) (f := 2) (x0 := (⟨k + 6 * (i : Int), (k + 6 * (i : Int) + 1), y0.uid, y0.flags, y0.mod, [], y0.all⟩ : Line)) (y := (⟨k + 6 * (i : Int), (k + 6 * (i : Int) + 1), (k + 6 * (i : Int) + 2), y0.flags, y0.mod, [], y0.all⟩ : Line)) (zs := (marks (fun (i : Nat) => (⟨k + 6 * (i : Int), (k + 6 * (i : Int) + 1), (k + 6 * (i : Int) + 2), (k + 6 * (i : Int) + 3), (k + 6 * (i : Int) + 4), [], (decide (Int.tmod (k + 6 * (i : Int) + 5) 3 = 0))⟩ : Line)) i ++ xs.drop i).set i (⟨k + 6 * (i : Int), (k + 6 * (i : Int) + 1), (k + 6 * (i : Int) + 2), y0.flags, y0.mod, [], y0.all⟩ : Line)) Kd.flat_Flat (q := 0) hs3 rfl ept3 rfl rfl TyOf.h rfl rfl rfl ⟨rfl, rfl⟩ (List.getElem?_set_self (by rw [marks_len2 (by omega)]; omega)) (by decide) (by rintro u ⟨rfl, hw⟩; exact ⟨rfl, rfl⟩) rfl (List.set_set ..) ?_)
    intro H3 hs4
    refine VC.nil (k12 ⟨64, [(0, _), (1, _), (5, _)]⟩ _ ?_)
    refine CWp.seqK fun Kk13 k13 => ?_
    refine CWp.regionW [0, 1, 5] ?_
    refine VC.s rfl (RVs.move rfl rfl (fun _ => rfl) ?_)
    refine VC.s rfl (RVs.arith (r := (k + 6 * (i : Int) + 3)) rfl rfl rfl (by (try simp only [bl_bs]); first | exact wrap_in (by omega) | (rw [wrap_in (by omega)]; omega)) rfl (fun _ => ⟨⟨rfl, rfl⟩, rfl⟩) ?_)
    refine VC.s rfl (RVs.assign rfl rfl (fun _ => rfl) ?_)
    refine VC.nil (k13 ⟨64, [(0, _), (1, _), (5, _)]⟩ _ ?_)
    refine CWp.seqK fun Kk14 k14 => ?_
    refine CWp.regionW [0, 1, 5] ?_
    refine VC.s rfl (RVs.move rfl rfl (fun _ => rfl) ?_)
    refine VC.s rfl (RVs.move rfl rfl (fun _ => rfl) ?_)
    refine VC.s rfl (RVs.move rfl rfl (fun _ => rfl) ?_)
    refine VC.s rfl (RVs.indexE (k := kLine0) (i := i) rfl (Sep.VS (i := 0) hs4 rfl) rfl ElemOf.h rfl rfl ⟨rfl, rfl⟩ (by (try rw [List.length_set]); rw [marks_len2 (by omega)]; omega) ?_)
    intro id4 j4 ept4
    refine VC.s rfl (RVs.fieldAddr rfl FieldOf.h (by decide) rfl (fun _ => rfl) ?_)
    refine VC.s rfl (RVs.storeE (k := kLine0) (f := 3) (x0 := (⟨k + 6 * (i : Int), (k + 6 * (i : Int) + 1), (k + 6 * (i : Int) + 2), y0.flags, y0.mod, [], y0.all⟩ : Line)) (y := (⟨k + 6 * (i : Int), (k + 6 * (i : Int) + 1), (k + 6 * (i : Int) + 2), (k + 6 * (i : Int) + 3), y0.mod, [], y0.all⟩ : Line)) (zs := (marks (fun (i : Nat) => (⟨k + 6 * (i : Int), (k + 6 * (i : Int) + 1), (k + 6 * (i : Int) + 2), (k + 6 * (i : Int) + 3), (k + 6 * (i : Int) + 4), [], (decide (Int.tmod (k + 6 * (i : Int) + 5) 3 = 0))⟩ : Line)) i ++ xs.drop i).set i (⟨k + 6 * (i : Int), (k + 6 * (i : Int) + 1), (k + 6 * (i : Int) + 2), (k + 6 * (i : Int) + 3), y0.mod, [], y0.all⟩ : Line)) Kd.flat_Flat (q := 0) hs4 rfl ept4 rfl rfl TyOf.h rfl rfl rfl ⟨rfl, rfl⟩ (List.getElem?_set_self (by rw [marks_len2 (by omega)]; omega)) (by decide) (by rintro u ⟨rfl, hw⟩; exact ⟨rfl, rfl⟩) rfl (List.set_set ..) ?_)
    intro H4 hs5
    refine VC.nil (k14 ⟨64, [(0, _), (1, _), (5, _)]⟩ _ ?_)
    refine CWp.seqK fun Kk15 k15 => ?_
    refine CWp.regionW [0, 1, 5] ?_
    refine VC.s rfl (RVs.move rfl rfl (fun _ => rfl) ?_)
    refine VC.s rfl (RVs.arith (r := (k + 6 * (i : Int) + 4)) rfl rfl rfl (by (try simp only [bl_bs]); first | exact wrap_in (by omega) | (rw [wrap_in (by omega)]; omega)) rfl (fun _ => ⟨⟨rfl, rfl⟩, rfl⟩) ?_)
    refine VC.s rfl (RVs.assign rfl rfl (fun _ => rfl) ?_)
    refine VC.nil (k15 ⟨64, [(0, _), (1, _), (5, _)]⟩ _ ?_)
    refine CWp.seqK fun Kk16 k16 => ?_
    refine CWp.regionW [0, 1, 5] ?_
    refine VC.s rfl (RVs.move rfl rfl (fun _ => rfl) ?_)
    refine VC.s rfl (RVs.move rfl rfl (fun _ => rfl) ?_)
    refine VC.s rfl (RVs.move rfl rfl (fun _ => rfl) ?_)
    refine VC.s rfl (RVs.indexE (k := kLine0) (i := i) rfl (Sep.VS (i := 0) hs5 rfl) rfl ElemOf.h rfl rfl ⟨rfl, rfl⟩ (by (try rw [List.length_set]); rw [marks_len2 (by omega)]; omega) ?_)
    intro id5 j5 ept5
    refine VC.s rfl (RVs.fieldAddr rfl FieldOf.h (by decide) rfl (fun _ => rfl) ?_)
    refine VC.s rfl (RVs.storeE (k := kLine0) (f := 4) (x0 := (⟨k + 6 * (i : Int), (k + 6 * (i : Int) + 1), (k + 6 * (i : Int) + 2), (k + 6 * (i : Int) + 3), y0.mod, [], y0.all⟩ : Line)) (y := (⟨k + 6 * (i : Int), (k + 6 * (i : Int) + 1), (k + 6 * (i : Int) + 2), (k + 6 * (i : Int) + 3), (k + 6 * (i : Int) + 4), [], y0.all⟩ : Line)) (zs := (marks (fun (i : Nat) => (⟨k + 6 * (i : Int), (k + 6 * (i : Int) + 1), (k + 6 * (i : Int) + 2), (k + 6 * (i : Int) + 3), (k + 6 * (i : Int) + 4), [], (decide (Int.tmod (k + 6 * (i : Int) + 5) 3 = 0))⟩ : Line)) i ++ xs.drop i).set i (⟨k + 6 * (i : Int), (k + 6 * (i : Int) + 1), (k + 6 * (i : Int) + 2), (k + 6 * (i : Int) + 3), (k + 6 * (i : Int) + 4), [], y0.all⟩ : Line)) Kd.flat_Flat (q := 0) hs5 rfl ept5 rfl rfl TyOf.h rfl rfl rfl ⟨rfl, rfl⟩ (List.getElem?_set_self (by rw [marks_len2 (by omega)]; omega)) (by decide) (by rintro u ⟨rfl, hw⟩; exact ⟨rfl, rfl⟩) rfl (List.set_set ..) ?_)
    intro H5 hs6
    refine VC.nil (k16 ⟨64, [(0, _), (1, _), (5, _)]⟩ _ ?_)
    refine CWp.seqK fun Kk17 k17 => ?_
    refine CWp.regionW [0, 1, 5] ?_
    refine VC.s rfl (RVs.move rfl rfl (fun _ => rfl) ?_)
    refine VC.s rfl (RVs.arith (r := (k + 6 * (i : Int) + 5)) rfl rfl rfl (by (try simp only [bl_bs]); first | exact wrap_in (by omega) | (rw [wrap_in (by omega)]; omega)) rfl (fun _ => ⟨⟨rfl, rfl⟩, rfl⟩) ?_)
    refine VC.s rfl (RVs.assign rfl rfl (fun _ => rfl) ?_)
    refine VC.nil (k17 ⟨64, [(0, _), (1, _), (5, _)]⟩ _ ?_)
    refine CWp.seqK fun Kk18 k18 => ?_
    refine CWp.regionW [0, 1, 5] ?_
    refine VC.s rfl (RVs.move rfl rfl (fun _ => rfl) ?_)
    refine VC.s rfl (RVs.move rfl rfl (fun _ => rfl) ?_)
    refine VC.s rfl (RVs.indexS rfl (Sep.VS (i := 0) hs6 rfl) rfl ElemOf.h rfl (fun _ => ⟨⟨rfl, rfl⟩, by omega, by simp only [List.length_set]; rw [marks_len2 (by omega)]; omega⟩) ?_)
    intro id6 j6 u1 B1 e1
    obtain ⟨y1, hy1, e1⟩ := e1 rfl
    try simp only [Int.toNat_natCast] at hy1
    obtain ⟨rfl, _⟩ := e1.r
    refine VC.s rfl (RVs.fieldAddr rfl FieldOf.h (by decide) rfl (fun _ => rfl) ?_)
    refine VC.s rfl (RVs.loadF (k := _) (f := 5) rfl TyOf.h rfl (fun _ => ⟨rfl, e1, by decide, rfl⟩) ?_)
    refine VC.s rfl (RVs.move rfl rfl (fun _ => rfl) ?_)
    refine VC.s rfl (RVs.callp rfl rfl rfl (fun _ => ⟨⟨rfl, rfl⟩, markRangeNil _ _⟩) ?_)
    refine VC.s rfl (RVs.assign rfl rfl (fun _ => rfl) ?_)
    refine VC.nil (k18 ⟨64, [(0, _), (1, _), (5, _)]⟩ _ ?_)
    refine CWp.seqK fun Kk19 k19 => ?_
    refine CWp.regionW [0, 1, 5] ?_
    refine VC.s rfl (RVs.move rfl rfl (fun _ => rfl) ?_)
    refine VC.s rfl (RVs.move rfl rfl (fun _ => rfl) ?_)
    refine VC.s rfl (RVs.move rfl rfl (fun _ => rfl) ?_)
    refine VC.s rfl (RVs.bin rfl rfl rfl rfl (fun _ => ⟨⟨rfl, rfl⟩, ⟨rfl, by decide⟩⟩) ?_)
    refine VC.s rfl (RVs.bin rfl rfl rfl rfl (fun _ => ⟨⟨rfl, rfl⟩, rfl⟩) ?_)
    refine VC.s rfl (RVs.indexE (k := kLine0) (i := i) rfl (Sep.VS (i := 0) hs6 rfl) rfl ElemOf.h rfl rfl ⟨rfl, rfl⟩ (by (try rw [List.length_set]); rw [marks_len2 (by omega)]; omega) ?_)
    intro id7 j7 ept6
    refine VC.s rfl (RVs.fieldAddr rfl FieldOf.h (by decide) rfl (fun _ => rfl) ?_)
    refine VC.s rfl (RVs.storeE (k := kLine0) (f := 6) (x0 := (⟨k + 6 * (i : Int), (k + 6 * (i : Int) + 1), (k + 6 * (i : Int) + 2), (k + 6 * (i : Int) + 3), (k + 6 * (i : Int) + 4), [], y0.all⟩ : Line)) (y := (⟨k + 6 * (i : Int), (k + 6 * (i : Int) + 1), (k + 6 * (i : Int) + 2), (k + 6 * (i : Int) + 3), (k + 6 * (i : Int) + 4), [], (decide (Int.tmod (k + 6 * (i : Int) + 5) 3 = 0))⟩ : Line)) (zs := (marks (fun (i : Nat) => (⟨k + 6 * (i : Int), (k + 6 * (i : Int) + 1), (k + 6 * (i : Int) + 2), (k + 6 * (i : Int) + 3), (k + 6 * (i : Int) + 4), [], (decide (Int.tmod (k + 6 * (i : Int) + 5) 3 = 0))⟩ : Line)) i ++ xs.drop i).set i (⟨k + 6 * (i : Int), (k + 6 * (i : Int) + 1), (k + 6 * (i : Int) + 2), (k + 6 * (i : Int) + 3), (k + 6 * (i : Int) + 4), [], (decide (Int.tmod (k + 6 * (i : Int) + 5) 3 = 0))⟩ : Line)) Kd.flat_Flat (q := 0) hs6 rfl ept6 rfl rfl TyOf.h rfl rfl rfl ⟨rfl, rfl⟩ (List.getElem?_set_self (by rw [marks_len2 (by omega)]; omega)) (by decide) (by rintro u ⟨rfl, hw⟩; exact ⟨rfl, rfl⟩) rfl (List.set_set ..) ?_)
    intro H6 hs7
    refine VC.nil (k19 ⟨64, [(0, _), (1, _), (5, _)]⟩ _ ?_)
    refine CWp.regionW [0, 1, 5] ?_
    refine VC.s rfl (RVs.move rfl rfl (fun _ => rfl) ?_)
    refine VC.s rfl (RVs.arith (r := (k + 6 * (i : Int) + 6)) rfl rfl rfl (by (try simp only [bl_bs]); first | exact wrap_in (by omega) | (rw [wrap_in (by omega)]; omega)) rfl (fun _ => ⟨⟨rfl, rfl⟩, rfl⟩) ?_)
    refine VC.s rfl (RVs.assign rfl rfl (fun _ => rfl) ?_)
    refine VC.nil (k7 ⟨64, [(0, _), (1, _), (5, _)]⟩ _ ?_)
    refine CWp.regionW [0, 1, 5] ?_
    refine VC.s rfl (RVs.move rfl rfl (fun _ => rfl) ?_)
    refine VC.s rfl (RVs.arith (r := ((i + 1 : Nat) : Int)) rfl rfl rfl (by (try simp only [bl_bs]); first | exact wrap_in (by omega) | (rw [wrap_in (by omega)]; omega)) rfl (fun _ => ⟨⟨rfl, rfl⟩, rfl⟩) ?_)
    refine VC.s rfl (RVs.assign rfl rfl (fun _ => rfl) ?_)
    refine VC.nil (k4 _ ⟨64, [(0, _), (1, _), (5, _)]⟩ _ ?_ ⟨i + 1, by simp; omega, rfl, by omega, by have hz := hs7; rwa [marks_setG (f := (fun (i : Nat) => (⟨k + 6 * (i : Int), (k + 6 * (i : Int) + 1), (k + 6 * (i : Int) + 2), (k + 6 * (i : Int) + 3), (k + 6 * (i : Int) + 4), [], (decide (Int.tmod (k + 6 * (i : Int) + 5) 3 = 0))⟩ : Line))) (by omega) rfl] at hz⟩)
    omega
  · have hge : xs.length ≤ i := by have h9 := of_decide_eq_false hc1; omega
    refine CWp.exit ?_
    refine k2 _ _ ?_
    refine CWp.seqK fun Kk20 k20 => ?_
    refine CWp.regionW [4] ?_
    refine VC.s rfl (RVs.move rfl rfl (fun _ => rfl) ?_)
    refine VC.s rfl (RVs.assign rfl rfl (fun _ => rfl) ?_)
    refine VC.nil (k20 ⟨64, [(4, _)]⟩ _ ?_)
    refine CWp.ret (q _ _ _ (.cons (.tmp rfl) .nil) ?_).1
    have hz := hs1
    rw [marks_all hge (by omega)] at hz
    exact ⟨by simp only [one]; congr 1; omega, Sep.done (i := 0) hz rfl⟩

theorem heldIntS (va : Value) (xs : List Int) (k : Int) (H : AH) (hS : kInt.S H va xs) (hx : xs = marks (fun (i : Nat) => k + (i : Int)) xs.length) (h0 : 0 ≤ k) (h1 : k + 1 * xs.length ≤ 4611686018427387904) : FWp Try.prog 72 [va, .int .i64 k] H (fun v' H' => v' = .int .i64 (k + 1 * xs.length) ∧ H' = H) := by
  refine FWp.pure rfl fun H ph => ?_
  replace hS := hS.mono (hle ph)
  have hSl := hS.lim
  unfold lim at hSl
  obtain ⟨aa, ca, rfl, hSc⟩ := hS.form
  refine FWp.enterK Try.func72 rfl (by decide +kernel) rfl rfl fun Q q => ?_
  have hs0 := Sep.nil (H := H)
  refine CWp.seqK fun Kk1 k1 => ?_
  refine CWp.regionW [0, 1] ?_
  refine VC.s rfl (RVs.assign rfl rfl (fun _ => rfl) ?_)
  refine VC.nil (k1 ⟨21, [(0, _), (1, _)]⟩ _ ?_)
  refine CWp.seqK fun Kk2 k2 => ?_
  refine CWp.seqK fun Kk3 k3 => ?_
  refine CWp.regionW [0, 1, 5] ?_
  refine VC.s rfl (RVs.assign rfl rfl (fun _ => rfl) ?_)
  refine VC.nil (k3 ⟨21, [(0, _), (1, _), (5, _)]⟩ _ ?_)
  refine CWp.block ?_
  refine CWp.loopK (fun n T H' => ∃ i : Nat, T = ⟨21, [(0, .slice aa xs.length ca), (1, .int .i64 (k + (i : Int))), (5, .int .i64 (i : Int))]⟩ ∧ n = xs.length - i ∧ (i ≤ xs.length) ∧ H <+: H') (n := xs.length) ⟨0, by simp, by first | rfl | simp, by omega, List.prefix_refl _⟩ ?_
  rintro n T Hl1 Kk4 k4 ⟨i, rfl, hn1, hi, hs1⟩
  have hs2 := Sep.grow hs0 hs1
  have hs3 := Sep.nil (H := Hl1)
  refine CWp.seqK fun Kk5 k5 => ?_
  refine CWp.seqK fun Kk6 k6 => ?_
  refine CWp.regionW [0, 1, 5, 9] ?_
  refine VC.s rfl (RVs.move rfl rfl (fun _ => rfl) ?_)
  refine VC.s rfl (RVs.move rfl rfl (fun _ => rfl) ?_)
  refine VC.s rfl (RVs.len_slice rfl UnSl.h rfl (fun _ => rfl) ?_)
  refine VC.s rfl (RVs.bin rfl rfl rfl rfl (fun _ => ⟨⟨rfl, rfl⟩, rfl⟩) ?_)
  refine VC.nil (k6 ⟨21, [(0, _), (1, _), (5, _), (9, _)]⟩ _ ?_)
  refine CWp.condV rfl (fun hc1 => ?_) (fun hc1 => ?_)
  · have hlt : i < xs.length := by have h9 := of_decide_eq_true hc1; omega
    refine CWp.skip ?_
    refine k5 _ _ ?_
    refine CWp.seqK fun Kk7 k7 => ?_
    refine CWp.block ?_
    refine CWp.seqK fun Kk8 k8 => ?_
    refine CWp.seqK fun Kk9 k9 => ?_
    refine CWp.regionW [0, 1, 5, 17] ?_
    refine VC.s rfl (RVs.move rfl rfl (fun _ => rfl) ?_)
    refine VC.s rfl (RVs.move rfl rfl (fun _ => rfl) ?_)
    refine VC.s rfl (RVs.indexS rfl (hS.mono (hle (List.IsPrefix.trans hs2.pre (hs3.pre)))) rfl ElemOf.h rfl (fun _ => ⟨⟨rfl, rfl⟩, by omega, by omega⟩) ?_)
    intro id1 j1 u1 B1 e1
    obtain ⟨y1, hy1, e1⟩ := e1 rfl
    try simp only [Int.toNat_natCast] at hy1
    have hry1 := e1.r; obtain rfl := hry1
    refine VC.s rfl (RVs.loadF (k := kInt) (f := 0) rfl TyOf.h rfl (fun _ => ⟨rfl, e1, by decide, rfl⟩) ?_)
    refine VC.s rfl (RVs.move rfl rfl (fun _ => rfl) ?_)
    refine VC.s rfl (RVs.bin rfl rfl rfl rfl (fun _ => ⟨⟨rfl, rfl⟩, rfl⟩) ?_)
    refine VC.nil (k9 ⟨21, [(0, _), (1, _), (5, _), (17, _)]⟩ _ ?_)
    refine CWp.condV rfl (fun hc2 => ?_) (fun hc2 => ?_)
    · have e9 := marks_get (f := (fun (i : Nat) => k + (i : Int))) (show (marks (fun (i : Nat) => k + (i : Int)) xs.length)[i]? = some y1 by rw [← hx]; exact hy1)
      rw [e9] at hc2
      simp at hc2
    · skip
      refine CWp.skip ?_
      refine k8 _ _ ?_
      refine CWp.regionW [0, 1, 5] ?_
      refine VC.s rfl (RVs.move rfl rfl (fun _ => rfl) ?_)
      refine VC.s rfl (RVs.arith (r := (k + (i : Int) + 1)) rfl rfl rfl (by (try simp only [bl_bs]); first | exact wrap_in (by omega) | (rw [wrap_in (by omega)]; omega)) rfl (fun _ => ⟨⟨rfl, rfl⟩, rfl⟩) ?_)
      refine VC.s rfl (RVs.assign rfl rfl (fun _ => rfl) ?_)
      refine VC.nil (k7 ⟨21, [(0, _), (1, _), (5, _)]⟩ _ ?_)
      refine CWp.regionW [0, 1, 5] ?_
      refine VC.s rfl (RVs.move rfl rfl (fun _ => rfl) ?_)
      refine VC.s rfl (RVs.arith (r := ((i + 1 : Nat) : Int)) rfl rfl rfl (by (try simp only [bl_bs]); first | exact wrap_in (by omega) | (rw [wrap_in (by omega)]; omega)) rfl (fun _ => ⟨⟨rfl, rfl⟩, rfl⟩) ?_)
      refine VC.s rfl (RVs.assign rfl rfl (fun _ => rfl) ?_)
      refine VC.nil (k4 _ ⟨21, [(0, _), (1, _), (5, _)]⟩ _ ?_ ⟨i + 1, by simp; omega, rfl, by omega, List.IsPrefix.trans hs1 hs3.pre⟩)
      omega
  · have hge : xs.length ≤ i := by have h9 := of_decide_eq_false hc1; omega
    refine CWp.exit ?_
    refine k2 _ _ ?_
    refine CWp.seqK fun Kk10 k10 => ?_
    refine CWp.regionW [4] ?_
    refine VC.s rfl (RVs.move rfl rfl (fun _ => rfl) ?_)
    refine VC.s rfl (RVs.assign rfl rfl (fun _ => rfl) ?_)
    refine VC.nil (k10 ⟨21, [(4, _)]⟩ _ ?_)
    refine CWp.ret (q _ _ _ (.cons (.tmp rfl) .nil) ?_).1
    exact ⟨by simp only [one]; congr 1; omega, (List.IsPrefix.trans hs2.pre (hs3.pre))⟩

theorem heldLineS (va : Value) (xs : List Line) (k : Int) (H : AH) (hS : kLine0.S H va xs) (hx : xs = marks (fun (i : Nat) => (⟨k + 6 * (i : Int), (k + 6 * (i : Int) + 1), (k + 6 * (i : Int) + 2), (k + 6 * (i : Int) + 3), (k + 6 * (i : Int) + 4), [], (decide (Int.tmod (k + 6 * (i : Int) + 5) 3 = 0))⟩ : Line)) xs.length) (h0 : 0 ≤ k) (h1 : k + 6 * xs.length ≤ 4611686018427387904) : FWp Try.prog 28 [va, .int .i64 k] H (fun v' H' => v' = .int .i64 (k + 6 * xs.length) ∧ H' = H) := by
  refine FWp.pure rfl fun H ph => ?_
  replace hS := hS.mono (hle ph)
  have hSl := hS.lim
  unfold lim at hSl
  obtain ⟨aa, ca, rfl, hSc⟩ := hS.form
  refine FWp.enterK Try.func28 rfl (by decide +kernel) rfl rfl fun Q q => ?_
  have hs0 := Sep.nil (H := H)
  refine CWp.seqK fun Kk1 k1 => ?_
  refine CWp.regionW [0, 1] ?_
  refine VC.s rfl (RVs.assign rfl rfl (fun _ => rfl) ?_)
  refine VC.nil (k1 ⟨78, [(0, _), (1, _)]⟩ _ ?_)
  refine CWp.seqK fun Kk2 k2 => ?_
  refine CWp.seqK fun Kk3 k3 => ?_
  refine CWp.regionW [0, 1, 5] ?_
  refine VC.s rfl (RVs.assign rfl rfl (fun _ => rfl) ?_)
  refine VC.nil (k3 ⟨78, [(0, _), (1, _), (5, _)]⟩ _ ?_)
  refine CWp.block ?_
  refine CWp.loopK (fun n T H' => ∃ i : Nat, T = ⟨78, [(0, .slice aa xs.length ca), (1, .int .i64 (k + 6 * (i : Int))), (5, .int .i64 (i : Int))]⟩ ∧ n = xs.length - i ∧ (i ≤ xs.length) ∧ H <+: H') (n := xs.length) ⟨0, by simp, by first | rfl | simp, by omega, List.prefix_refl _⟩ ?_
  rintro n T Hl1 Kk4 k4 ⟨i, rfl, hn1, hi, hs1⟩
  have hs2 := Sep.grow hs0 hs1
  have hs3 := Sep.nil (H := Hl1)
  refine CWp.seqK fun Kk5 k5 => ?_
  refine CWp.seqK fun Kk6 k6 => ?_
  refine CWp.regionW [0, 1, 5, 9] ?_
  refine VC.s rfl (RVs.move rfl rfl (fun _ => rfl) ?_)
  refine VC.s rfl (RVs.move rfl rfl (fun _ => rfl) ?_)
  refine VC.s rfl (RVs.len_slice rfl UnSl.h rfl (fun _ => rfl) ?_)
  refine VC.s rfl (RVs.bin rfl rfl rfl rfl (fun _ => ⟨⟨rfl, rfl⟩, rfl⟩) ?_)
  refine VC.nil (k6 ⟨78, [(0, _), (1, _), (5, _), (9, _)]⟩ _ ?_)
  refine CWp.condV rfl (fun hc1 => ?_) (fun hc1 => ?_)
  · have hlt : i < xs.length := by have h9 := of_decide_eq_true hc1; omega
    refine CWp.skip ?_
    refine k5 _ _ ?_
    refine CWp.seqK fun Kk7 k7 => ?_
    refine CWp.block ?_
    refine CWp.seqK fun Kk8 k8 => ?_
    refine CWp.seqK fun Kk9 k9 => ?_
    refine CWp.regionW [0, 1, 5, 18] ?_
    refine VC.s rfl (RVs.move rfl rfl (fun _ => rfl) ?_)
    refine VC.s rfl (RVs.move rfl rfl (fun _ => rfl) ?_)
    refine VC.s rfl (RVs.indexS rfl (hS.mono (hle (List.IsPrefix.trans hs2.pre (hs3.pre)))) rfl ElemOf.h rfl (fun _ => ⟨⟨rfl, rfl⟩, by omega, by omega⟩) ?_)
    intro id1 j1 u1 B1 e1
    obtain ⟨y1, hy1, e1⟩ := e1 rfl
    try simp only [Int.toNat_natCast] at hy1
    obtain ⟨rfl, hwy1⟩ := e1.r
    refine VC.s rfl (RVs.fieldAddr rfl FieldOf.h (by decide) rfl (fun _ => rfl) ?_)
    refine VC.s rfl (RVs.loadF (k := kLine0) (f := 0) rfl TyOf.h rfl (fun _ => ⟨rfl, e1, by decide, rfl⟩) ?_)
    refine VC.s rfl (RVs.move rfl rfl (fun _ => rfl) ?_)
    refine VC.s rfl (RVs.bin rfl rfl rfl rfl (fun _ => ⟨⟨rfl, rfl⟩, rfl⟩) ?_)
    refine VC.nil (k9 ⟨78, [(0, _), (1, _), (5, _), (18, _)]⟩ _ ?_)
    refine CWp.condV rfl (fun hc2 => ?_) (fun hc2 => ?_)
    · have e9 := marks_get (f := (fun (i : Nat) => (⟨k + 6 * (i : Int), (k + 6 * (i : Int) + 1), (k + 6 * (i : Int) + 2), (k + 6 * (i : Int) + 3), (k + 6 * (i : Int) + 4), [], (decide (Int.tmod (k + 6 * (i : Int) + 5) 3 = 0))⟩ : Line))) (show (marks (fun (i : Nat) => (⟨k + 6 * (i : Int), (k + 6 * (i : Int) + 1), (k + 6 * (i : Int) + 2), (k + 6 * (i : Int) + 3), (k + 6 * (i : Int) + 4), [], (decide (Int.tmod (k + 6 * (i : Int) + 5) 3 = 0))⟩ : Line)) xs.length)[i]? = some y1 by rw [← hx]; exact hy1)
      rw [e9] at hc2
      simp at hc2
    · skip
      refine CWp.skip ?_
      refine k8 _ _ ?_
      refine CWp.seqK fun Kk10 k10 => ?_
      refine CWp.regionW [0, 1, 5] ?_
      refine VC.s rfl (RVs.move rfl rfl (fun _ => rfl) ?_)
      refine VC.s rfl (RVs.arith (r := (k + 6 * (i : Int) + 1)) rfl rfl rfl (by (try simp only [bl_bs]); first | exact wrap_in (by omega) | (rw [wrap_in (by omega)]; omega)) rfl (fun _ => ⟨⟨rfl, rfl⟩, rfl⟩) ?_)
      refine VC.s rfl (RVs.assign rfl rfl (fun _ => rfl) ?_)
      refine VC.nil (k10 ⟨78, [(0, _), (1, _), (5, _)]⟩ _ ?_)
      refine CWp.seqK fun Kk11 k11 => ?_
      refine CWp.seqK fun Kk12 k12 => ?_
      refine CWp.regionW [0, 1, 5, 27] ?_
      refine VC.s rfl (RVs.move rfl rfl (fun _ => rfl) ?_)
      refine VC.s rfl (RVs.move rfl rfl (fun _ => rfl) ?_)
      refine VC.s rfl (RVs.indexS rfl (hS.mono (hle (List.IsPrefix.trans hs2.pre (hs3.pre)))) rfl ElemOf.h rfl (fun _ => ⟨⟨rfl, rfl⟩, by omega, by omega⟩) ?_)
      intro id2 j2 u2 B2 e2
      obtain ⟨y2, hy2, e2⟩ := e2 rfl
      try simp only [Int.toNat_natCast] at hy2
      obtain ⟨rfl, hwy2⟩ := e2.r
      refine VC.s rfl (RVs.fieldAddr rfl FieldOf.h (by decide) rfl (fun _ => rfl) ?_)
      refine VC.s rfl (RVs.loadF (k := kLine0) (f := 1) rfl TyOf.h rfl (fun _ => ⟨rfl, e2, by decide, rfl⟩) ?_)
      refine VC.s rfl (RVs.move rfl rfl (fun _ => rfl) ?_)
      refine VC.s rfl (RVs.bin rfl rfl rfl rfl (fun _ => ⟨⟨rfl, rfl⟩, rfl⟩) ?_)
      refine VC.nil (k12 ⟨78, [(0, _), (1, _), (5, _), (27, _)]⟩ _ ?_)
      refine CWp.condV rfl (fun hc3 => ?_) (fun hc3 => ?_)
      · have e9 := marks_get (f := (fun (i : Nat) => (⟨k + 6 * (i : Int), (k + 6 * (i : Int) + 1), (k + 6 * (i : Int) + 2), (k + 6 * (i : Int) + 3), (k + 6 * (i : Int) + 4), [], (decide (Int.tmod (k + 6 * (i : Int) + 5) 3 = 0))⟩ : Line))) (show (marks (fun (i : Nat) => (⟨k + 6 * (i : Int), (k + 6 * (i : Int) + 1), (k + 6 * (i : Int) + 2), (k + 6 * (i : Int) + 3), (k + 6 * (i : Int) + 4), [], (decide (Int.tmod (k + 6 * (i : Int) + 5) 3 = 0))⟩ : Line)) xs.length)[i]? = some y2 by rw [← hx]; exact hy2)
        rw [e9] at hc3
        simp at hc3
      · skip
        refine CWp.skip ?_
        refine k11 _ _ ?_
        refine CWp.seqK fun Kk13 k13 => ?_
        refine CWp.regionW [0, 1, 5] ?_
        refine VC.s rfl (RVs.move rfl rfl (fun _ => rfl) ?_)
        refine VC.s rfl (RVs.arith (r := (k + 6 * (i : Int) + 2)) rfl rfl rfl (by (try simp only [bl_bs]); first | exact wrap_in (by omega) | (rw [wrap_in (by omega)]; omega)) rfl (fun _ => ⟨⟨rfl, rfl⟩, rfl⟩) ?_)
        refine VC.s rfl (RVs.assign rfl rfl (fun _ => rfl) ?_)
        refine VC.nil (k13 ⟨78, [(0, _), (1, _), (5, _)]⟩ _ ?_)
        refine CWp.seqK fun Kk14 k14 => ?_
        refine CWp.seqK fun Kk15 k15 => ?_
        refine CWp.regionW [0, 1, 5, 36] ?_
        refine VC.s rfl (RVs.move rfl rfl (fun _ => rfl) ?_)
        refine VC.s rfl (RVs.move rfl rfl (fun _ => rfl) ?_)
        refine VC.s rfl (RVs.indexS rfl (hS.mono (hle (List.IsPrefix.trans hs2.pre (hs3.pre)))) rfl ElemOf.h rfl (fun _ => ⟨⟨rfl, rfl⟩, by omega, by omega⟩) ?_)
        intro id3 j3 u3 B3 e3
        obtain ⟨y3, hy3, e3⟩ := e3 rfl
        try simp only [Int.toNat_natCast] at hy3
        obtain ⟨rfl, hwy3⟩ := e3.r
        refine VC.s rfl (RVs.fieldAddr rfl FieldOf.h (by decide) rfl (fun _ => rfl) ?_)
        refine VC.s rfl (RVs.loadF (k := kLine0) (f := 2) rfl TyOf.h rfl (fun _ => ⟨rfl, e3, by decide, rfl⟩) ?_)
        refine VC.s rfl (RVs.move rfl rfl (fun _ => rfl) ?_)
        refine VC.s rfl (RVs.bin rfl rfl rfl rfl (fun _ => ⟨⟨rfl, rfl⟩, rfl⟩) ?_)
        refine VC.nil (k15 ⟨78, [(0, _), (1, _), (5, _), (36, _)]⟩ _ ?_)
        refine CWp.condV rfl (fun hc4 => ?_) (fun hc4 => ?_)
        · have e9 := marks_get (f := (fun (i : Nat) => (⟨k + 6 * (i : Int), (k + 6 * (i : Int) + 1), (k + 6 * (i : Int) + 2), (k + 6 * (i : Int) + 3), (k + 6 * (i : Int) + 4), [], (decide (Int.tmod (k + 6 * (i : Int) + 5) 3 = 0))⟩ : Line))) (show (marks (fun (i : Nat) => (⟨k + 6 * (i : Int), (k + 6 * (i : Int) + 1), (k + 6 * (i : Int) + 2), (k + 6 * (i : Int) + 3), (k + 6 * (i : Int) + 4), [], (decide (Int.tmod (k + 6 * (i : Int) + 5) 3 = 0))⟩ : Line)) xs.length)[i]? = some y3 by rw [← hx]; exact hy3)
          rw [e9] at hc4
          simp at hc4
        · skip
          refine CWp.skip ?_
          refine k14 _ _ ?_
          refine CWp.seqK fun Kk16 k16 => ?_
          refine CWp.regionW [0, 1, 5] ?_
          refine VC.s rfl (RVs.move rfl rfl (fun _ => rfl) ?_)
          refine VC.s rfl (RVs.arith (r := (k + 6 * (i : Int) + 3)) rfl rfl rfl (by (try simp only [bl_bs]); first | exact wrap_in (by omega) | (rw [wrap_in (by omega)]; omega)) rfl (fun _ => ⟨⟨rfl, rfl⟩, rfl⟩) ?_)
          refine VC.s rfl (RVs.assign rfl rfl (fun _ => rfl) ?_)
          refine VC.nil (k16 ⟨78, [(0, _), (1, _), (5, _)]⟩ _ ?_)
          refine CWp.seqK fun Kk17 k17 => ?_
          refine CWp.seqK fun Kk18 k18 => ?_
          refine CWp.regionW [0, 1, 5, 45] ?_
          refine VC.s rfl (RVs.move rfl rfl (fun _ => rfl) ?_)
          refine VC.s rfl (RVs.move rfl rfl (fun _ => rfl) ?_)
          refine VC.s rfl (RVs.indexS rfl (hS.mono (hle (List.IsPrefix.trans hs2.pre (hs3.pre)))) rfl ElemOf.h rfl (fun _ => ⟨⟨rfl, rfl⟩, by omega, by omega⟩) ?_)
          intro id4 j4 u4 B4 e4
          obtain ⟨y4, hy4, e4⟩ := e4 rfl
          try simp only [Int.toNat_natCast] at hy4
          obtain ⟨rfl, hwy4⟩ := e4.r
          refine VC.s rfl (RVs.fieldAddr rfl FieldOf.h (by decide) rfl (fun _ => rfl) ?_)
          refine VC.s rfl (RVs.loadF (k := kLine0) (f := 3) rfl TyOf.h rfl (fun _ => ⟨rfl, e4, by decide, rfl⟩) ?_)
          refine VC.s rfl (RVs.move rfl rfl (fun _ => rfl) ?_)
          refine VC.s rfl (RVs.bin rfl rfl rfl rfl (fun _ => ⟨⟨rfl, rfl⟩, rfl⟩) ?_)
          refine VC.nil (k18 ⟨78, [(0, _), (1, _), (5, _), (45, _)]⟩ _ ?_)
          refine CWp.condV rfl (fun hc5 => ?_) (fun hc5 => ?_)
          · have e9 := marks_get (f := (fun (i : Nat) => (⟨k + 6 * (i : Int), (k + 6 * (i : Int) + 1), (k + 6 * (i : Int) + 2), (k + 6 * (i : Int) + 3), (k + 6 * (i : Int) + 4), [], (decide (Int.tmod (k + 6 * (i : Int) + 5) 3 = 0))⟩ : Line))) (show (marks (fun (i : Nat) => (⟨k + 6 * (i : Int), (k + 6 * (i : Int) + 1), (k + 6 * (i : Int) + 2), (k + 6 * (i : Int) + 3), (k + 6 * (i : Int) + 4), [], (decide (Int.tmod (k + 6 * (i : Int) + 5) 3 = 0))⟩ : Line)) xs.length)[i]? = some y4 by rw [← hx]; exact hy4)
            rw [e9] at hc5
            simp at hc5
          · skip
            refine CWp.skip ?_
            refine k17 _ _ ?_
            refine CWp.seqK fun Kk19 k19 => ?_
            refine CWp.regionW [0, 1, 5] ?_
            refine VC.s rfl (RVs.move rfl rfl (fun _ => rfl) ?_)
            refine VC.s rfl (RVs.arith (r := (k + 6 * (i : Int) + 4)) rfl rfl rfl (by (try simp only [bl_bs]); first | exact wrap_in (by omega) | (rw [wrap_in (by omega)]; omega)) rfl (fun _ => ⟨⟨rfl, rfl⟩, rfl⟩) ?_)
            refine VC.s rfl (RVs.assign rfl rfl (fun _ => rfl) ?_)
            refine VC.nil (k19 ⟨78, [(0, _), (1, _), (5, _)]⟩ _ ?_)
            refine CWp.seqK fun Kk20 k20 => ?_
            refine CWp.seqK fun Kk21 k21 => ?_
            refine CWp.regionW [0, 1, 5, 54] ?_
            refine VC.s rfl (RVs.move rfl rfl (fun _ => rfl) ?_)
            refine VC.s rfl (RVs.move rfl rfl (fun _ => rfl) ?_)
            refine VC.s rfl (RVs.indexS rfl (hS.mono (hle (List.IsPrefix.trans hs2.pre (hs3.pre)))) rfl ElemOf.h rfl (fun _ => ⟨⟨rfl, rfl⟩, by omega, by omega⟩) ?_)
            intro id5 j5 u5 B5 e5
            obtain ⟨y5, hy5, e5⟩ := e5 rfl
            try simp only [Int.toNat_natCast] at hy5
            obtain ⟨rfl, hwy5⟩ := e5.r
            refine VC.s rfl (RVs.fieldAddr rfl FieldOf.h (by decide) rfl (fun _ => rfl) ?_)
            refine VC.s rfl (RVs.loadF (k := kLine0) (f := 4) rfl TyOf.h rfl (fun _ => ⟨rfl, e5, by decide, rfl⟩) ?_)
            refine VC.s rfl (RVs.move rfl rfl (fun _ => rfl) ?_)
            refine VC.s rfl (RVs.bin rfl rfl rfl rfl (fun _ => ⟨⟨rfl, rfl⟩, rfl⟩) ?_)
            refine VC.nil (k21 ⟨78, [(0, _), (1, _), (5, _), (54, _)]⟩ _ ?_)
            refine CWp.condV rfl (fun hc6 => ?_) (fun hc6 => ?_)
            · have e9 := marks_get (f := (fun (i : Nat) => (⟨k + 6 * (i : Int), (k + 6 * (i : Int) + 1), (k + 6 * (i : Int) + 2), (k + 6 * (i : Int) + 3), (k + 6 * (i : Int) + 4), [], (decide (Int.tmod (k + 6 * (i : Int) + 5) 3 = 0))⟩ : Line))) (show (marks (fun (i : Nat) => (⟨k + 6 * (i : Int), (k + 6 * (i : Int) + 1), (k + 6 * (i : Int) + 2), (k + 6 * (i : Int) + 3), (k + 6 * (i : Int) + 4), [], (decide (Int.tmod (k + 6 * (i : Int) + 5) 3 = 0))⟩ : Line)) xs.length)[i]? = some y5 by rw [← hx]; exact hy5)
              rw [e9] at hc6
              simp at hc6
            · skip
              refine CWp.skip ?_
              refine k20 _ _ ?_
              refine CWp.seqK fun Kk22 k22 => ?_
              refine CWp.regionW [0, 1, 5] ?_
              refine VC.s rfl (RVs.move rfl rfl (fun _ => rfl) ?_)
              refine VC.s rfl (RVs.arith (r := (k + 6 * (i : Int) + 5)) rfl rfl rfl (by (try simp only [bl_bs]); first | exact wrap_in (by omega) | (rw [wrap_in (by omega)]; omega)) rfl (fun _ => ⟨⟨rfl, rfl⟩, rfl⟩) ?_)
              refine VC.s rfl (RVs.assign rfl rfl (fun _ => rfl) ?_)
              refine VC.nil (k22 ⟨78, [(0, _), (1, _), (5, _)]⟩ _ ?_)
              refine CWp.seqK fun Kk23 k23 => ?_
              refine CWp.regionW [0, 1, 5] ?_
              refine VC.s rfl (RVs.move rfl rfl (fun _ => rfl) ?_)
              refine VC.s rfl (RVs.move rfl rfl (fun _ => rfl) ?_)
              refine VC.s rfl (RVs.indexS rfl (hS.mono (hle (List.IsPrefix.trans hs2.pre (hs3.pre)))) rfl ElemOf.h rfl (fun _ => ⟨⟨rfl, rfl⟩, by omega, by omega⟩) ?_)
              intro id6 j6 u6 B6 e6
              obtain ⟨y6, hy6, e6⟩ := e6 rfl
              try simp only [Int.toNat_natCast] at hy6
              obtain ⟨rfl, hwy6⟩ := e6.r
              refine VC.s rfl (RVs.fieldAddr rfl FieldOf.h (by decide) rfl (fun _ => rfl) ?_)
              refine VC.s rfl (RVs.loadF (k := kLine0) (f := 5) rfl TyOf.h rfl (fun _ => ⟨rfl, e6, by decide, rfl⟩) ?_)
              refine VC.s rfl (RVs.move rfl rfl (fun _ => rfl) ?_)
              refine VC.s rfl (RVs.callp rfl rfl rfl (fun _ => ⟨⟨rfl, rfl⟩, heldRangeNil _ _⟩) ?_)
              refine VC.s rfl (RVs.assign rfl rfl (fun _ => rfl) ?_)
              refine VC.nil (k23 ⟨78, [(0, _), (1, _), (5, _)]⟩ _ ?_)
              refine CWp.seqK fun Kk24 k24 => ?_
              refine CWp.seqK fun Kk25 k25 => ?_
              refine CWp.regionW [0, 1, 5, 65] ?_
              refine VC.s rfl (RVs.move rfl rfl (fun _ => rfl) ?_)
              refine VC.s rfl (RVs.bin rfl rfl rfl rfl (fun _ => ⟨⟨rfl, rfl⟩, rfl⟩) ?_)
              refine VC.nil (k25 ⟨78, [(0, _), (1, _), (5, _), (65, _)]⟩ _ ?_)
              refine CWp.condV rfl (fun hc7 => ?_) (fun hc7 => ?_)
              · exact absurd (of_decide_eq_true hc7) (by omega)
              · try simp at hc7
                refine CWp.skip ?_
                refine k24 _ _ ?_
                refine CWp.seqK fun Kk26 k26 => ?_
                refine CWp.seqK fun Kk27 k27 => ?_
                refine CWp.regionW [0, 1, 5, 74] ?_
                refine VC.s rfl (RVs.move rfl rfl (fun _ => rfl) ?_)
                refine VC.s rfl (RVs.move rfl rfl (fun _ => rfl) ?_)
                refine VC.s rfl (RVs.indexS rfl (hS.mono (hle (List.IsPrefix.trans hs2.pre (hs3.pre)))) rfl ElemOf.h rfl (fun _ => ⟨⟨rfl, rfl⟩, by omega, by omega⟩) ?_)
                intro id7 j7 u7 B7 e7
                obtain ⟨y7, hy7, e7⟩ := e7 rfl
                try simp only [Int.toNat_natCast] at hy7
                obtain ⟨rfl, hwy7⟩ := e7.r
                refine VC.s rfl (RVs.fieldAddr rfl FieldOf.h (by decide) rfl (fun _ => rfl) ?_)
                refine VC.s rfl (RVs.loadF (k := kLine0) (f := 6) rfl TyOf.h rfl (fun _ => ⟨rfl, e7, by decide, rfl⟩) ?_)
                refine VC.s rfl (RVs.move rfl rfl (fun _ => rfl) ?_)
                refine VC.s rfl (RVs.bin rfl rfl rfl rfl (fun _ => ⟨⟨rfl, rfl⟩, ⟨rfl, by decide⟩⟩) ?_)
                refine VC.s rfl (RVs.bin rfl rfl rfl rfl (fun _ => ⟨⟨rfl, rfl⟩, rfl⟩) ?_)
                refine VC.s rfl (RVs.ne_bool rfl rfl UnBool.h rfl (fun _ => ⟨rfl, rfl⟩) ?_)
                refine VC.nil (k27 ⟨78, [(0, _), (1, _), (5, _), (74, _)]⟩ _ ?_)
                refine CWp.condV rfl (fun hc8 => ?_) (fun hc8 => ?_)
                · have e9 := marks_get (f := (fun (i : Nat) => (⟨k + 6 * (i : Int), (k + 6 * (i : Int) + 1), (k + 6 * (i : Int) + 2), (k + 6 * (i : Int) + 3), (k + 6 * (i : Int) + 4), [], (decide (Int.tmod (k + 6 * (i : Int) + 5) 3 = 0))⟩ : Line))) (show (marks (fun (i : Nat) => (⟨k + 6 * (i : Int), (k + 6 * (i : Int) + 1), (k + 6 * (i : Int) + 2), (k + 6 * (i : Int) + 3), (k + 6 * (i : Int) + 4), [], (decide (Int.tmod (k + 6 * (i : Int) + 5) 3 = 0))⟩ : Line)) xs.length)[i]? = some y7 by rw [← hx]; exact hy7)
                  rw [e9] at hc8
                  simp at hc8
                · skip
                  refine CWp.skip ?_
                  refine k26 _ _ ?_
                  refine CWp.regionW [0, 1, 5] ?_
                  refine VC.s rfl (RVs.move rfl rfl (fun _ => rfl) ?_)
                  refine VC.s rfl (RVs.arith (r := (k + 6 * (i : Int) + 6)) rfl rfl rfl (by (try simp only [bl_bs]); first | exact wrap_in (by omega) | (rw [wrap_in (by omega)]; omega)) rfl (fun _ => ⟨⟨rfl, rfl⟩, rfl⟩) ?_)
                  refine VC.s rfl (RVs.assign rfl rfl (fun _ => rfl) ?_)
                  refine VC.nil (k7 ⟨78, [(0, _), (1, _), (5, _)]⟩ _ ?_)
                  refine CWp.regionW [0, 1, 5] ?_
                  refine VC.s rfl (RVs.move rfl rfl (fun _ => rfl) ?_)
                  refine VC.s rfl (RVs.arith (r := ((i + 1 : Nat) : Int)) rfl rfl rfl (by (try simp only [bl_bs]); first | exact wrap_in (by omega) | (rw [wrap_in (by omega)]; omega)) rfl (fun _ => ⟨⟨rfl, rfl⟩, rfl⟩) ?_)
                  refine VC.s rfl (RVs.assign rfl rfl (fun _ => rfl) ?_)
                  refine VC.nil (k4 _ ⟨78, [(0, _), (1, _), (5, _)]⟩ _ ?_ ⟨i + 1, by simp; omega, rfl, by omega, List.IsPrefix.trans hs1 hs3.pre⟩)
                  omega
  · have hge : xs.length ≤ i := by have h9 := of_decide_eq_false hc1; omega
    refine CWp.exit ?_
    refine k2 _ _ ?_
    refine CWp.seqK fun Kk28 k28 => ?_
    refine CWp.regionW [4] ?_
    refine VC.s rfl (RVs.move rfl rfl (fun _ => rfl) ?_)
    refine VC.s rfl (RVs.assign rfl rfl (fun _ => rfl) ?_)
    refine VC.nil (k28 ⟨78, [(4, _)]⟩ _ ?_)
    refine CWp.ret (q _ _ _ (.cons (.tmp rfl) .nil) ?_).1
    exact ⟨by simp only [one]; congr 1; omega, (List.IsPrefix.trans hs2.pre (hs3.pre))⟩

theorem toIntS (va : Value) (xs : List Int) (H : AH) (hS : kInt.S H va xs) (hn : xs.length ≤ 1048576) : FWp Try.prog 57 [va] H (fun v' H' => Fresh kInt.slice H H' [v'] xs) := by
  obtain ⟨aa, ca, rfl, hca⟩ := hS.form
  refine FWp.enterK Try.func57 rfl (by decide +kernel) rfl rfl fun Q q => ?_
  refine CWp.seqK fun Kk1 k1 => ?_
  refine CWp.regionW [0] ?_
  refine VC.s rfl (RVs.assign rfl rfl (fun _ => rfl) ?_)
  refine VC.nil (k1 ⟨22, [(0, _)]⟩ _ ?_)
  refine CWp.seqK fun Kk2 k2 => ?_
  refine CWp.regionW [0, 3] ?_
  refine VC.s rfl (RVs.move rfl rfl (fun _ => rfl) ?_)
  refine VC.s rfl (RVs.len_slice rfl UnSl.h rfl (fun _ => rfl) ?_)
  refine VC.s rfl (RVs.makeS rfl rfl ElemOf.h ElOk.h ZeroOf.h rfl rfl ⟨rfl, rfl⟩ (by omega) ?_)
  intro id1 H1 g1 l1 a1
  have p1 := (List.prefix_refl H).trans g1
  have fi1 := Kd.Fill.start (k := kInt) a1 rfl l1
  refine VC.s rfl (RVs.assign rfl rfl (fun _ => rfl) ?_)
  refine VC.nil (k2 ⟨22, [(0, _), (3, _)]⟩ _ ?_)
  refine CWp.seqK fun Kk3 k3 => ?_
  refine CWp.seqK fun Kk4 k4 => ?_
  refine CWp.regionW [0, 3, 4] ?_
  refine VC.s rfl (RVs.assign rfl rfl (fun _ => rfl) ?_)
  refine VC.nil (k4 ⟨22, [(0, _), (3, _), (4, _)]⟩ _ ?_)
  refine CWp.block ?_
  refine CWp.loopK (fun n T H' => ∃ i : Nat, T = ⟨22, [(0, .slice aa xs.length ca), (3, .slice (some ⟨id1, 0, none⟩) xs.length xs.length), (4, .int .i64 (i : Int))]⟩ ∧ n = xs.length - i ∧ (i ≤ xs.length) ∧ H <+: H' ∧ ∃ F, kInt.Fill 3 H.length H' id1 xs.length (xs.take i) F) (n := xs.length) ⟨0, rfl, by first | rfl | simp, by omega, p1, _, by simpa using fi1⟩ ?_
  rintro n T Hl1 Kk5 k5 ⟨i, rfl, hn1, hi, plo, Fo, hfo⟩
  refine CWp.seqK fun Kk6 k6 => ?_
  refine CWp.seqK fun Kk7 k7 => ?_
  refine CWp.regionW [0, 3, 4, 11] ?_
  refine VC.s rfl (RVs.move rfl rfl (fun _ => rfl) ?_)
  refine VC.s rfl (RVs.move rfl rfl (fun _ => rfl) ?_)
  refine VC.s rfl (RVs.len_slice rfl UnSl.h rfl (fun _ => rfl) ?_)
  refine VC.s rfl (RVs.bin rfl rfl rfl rfl (fun _ => ⟨⟨rfl, rfl⟩, rfl⟩) ?_)
  refine VC.nil (k7 ⟨22, [(0, _), (3, _), (4, _), (11, _)]⟩ _ ?_)
  refine CWp.condV rfl (fun hc1 => ?_) (fun hc1 => ?_)
  · try simp at hc1
    refine CWp.skip ?_
    refine k6 _ _ ?_
    refine CWp.seqK fun Kk8 k8 => ?_
    refine CWp.block ?_
    refine CWp.regionW [0, 3, 4] ?_
    refine VC.s rfl (RVs.move rfl rfl (fun _ => rfl) ?_)
    refine VC.s rfl (RVs.move rfl rfl (fun _ => rfl) ?_)
    refine VC.s rfl (RVs.move rfl rfl (fun _ => rfl) ?_)
    refine VC.s rfl (RVs.move rfl rfl (fun _ => rfl) ?_)
    refine VC.s rfl (RVs.indexS rfl (hS.mono (hle plo)) rfl ElemOf.h rfl (fun _ => ⟨⟨rfl, rfl⟩, by omega, by omega⟩) ?_)
    intro id2 j1 u1 B1 e1
    obtain ⟨y1, hy1, e1⟩ := e1 rfl
    have hr := e1.r
    obtain rfl := hr
    refine VC.s rfl (RVs.loadF (k := kInt) (f := 0) rfl TyOf.h rfl (fun _ => ⟨rfl, e1, by decide, rfl⟩) ?_)
    refine VC.s rfl (RVs.indexAddr rfl rfl ElemOf.h rfl (fun _ => ⟨⟨rfl, rfl⟩, by omega, by omega⟩) ?_)
    refine VC.s rfl (RVs.storeFill1 (k := kInt) rfl rfl TyOf.h rfl rfl rfl rfl ⟨rfl, rfl⟩ hfo (by simp; omega) (by simp; omega) (⟨rfl, rfl⟩) (by simpa using hfo.nd) (by simp) ?_)
    intro B2 H2 u2 fi2
    have p2 := u2.prefix plo (by have := List.IsPrefix.length_le plo; have := fi2.lo id1 (by simp); omega)
    refine VC.nil (k8 ⟨22, [(0, _), (3, _), (4, _)]⟩ _ ?_)
    refine CWp.regionW [0, 3, 4] ?_
    refine VC.s rfl (RVs.move rfl rfl (fun _ => rfl) ?_)
    refine VC.s rfl (RVs.bin rfl rfl rfl rfl (fun _ => ⟨⟨rfl, rfl⟩, rfl⟩) ?_)
    refine VC.s rfl (RVs.assign rfl rfl (fun _ => rfl) ?_)
    rw [wrap_succ (n := xs.length) (by omega) (by unfold lim; omega)]
    refine VC.nil (k5 _ ⟨22, [(0, _), (3, _), (4, _)]⟩ _ ?_ ⟨i + 1, rfl, rfl, by omega, p2, _, (take_snoc hy1) ▸ fi2⟩)
    omega
  · try simp at hc1
    refine CWp.exit ?_
    refine k3 _ _ ?_
    refine CWp.seqK fun Kk9 k9 => ?_
    refine CWp.regionW [2] ?_
    refine VC.s rfl (RVs.move rfl rfl (fun _ => rfl) ?_)
    refine VC.s rfl (RVs.assign rfl rfl (fun _ => rfl) ?_)
    refine VC.nil (k9 ⟨22, [(2, _)]⟩ _ ?_)
    refine CWp.ret (q _ _ _ (.cons (.tmp rfl) .nil) ?_).1
    have hf := hfo
    rw [List.take_of_length_le (by omega)] at hf
    exact hf.fresh plo rfl (by unfold lim; omega)

end Go.Proofs.Ytaccaelocddakaa
