/- The walks of the functions that measure, copy, compare and mark views and lines. -/
import Derived.Test.YtaccaelocddakaaBT4
import Derived.Test.YtaccaelocddakaaBT3
import Derived.Test.YtaccaelocddakaaAH
namespace Go.Proofs.Ytaccaelocddakaa
open Go Go.RowKit
set_option linter.unusedVariables false
set_option maxRecDepth 20000
variable [Tabs]

theorem markText (k : Int) (H : AH) (hk : k ≤ lim) : FWp Try.prog 106 [.int .i64 k] H (fun v' H' => v' = .string (bs (markT k)) ∧ H' = H) := by
  refine FWp.pure rfl fun H ph => ?_
  unfold lim at hk
  refine FWp.enterK Try.func106 rfl (by decide +kernel) rfl rfl fun Q q => ?_
  refine CWp.seqK fun Kk1 k1 => ?_
  refine CWp.regionW [0] ?_
  refine VC.s rfl (RVs.assign rfl rfl (fun _ => rfl) ?_)
  refine VC.nil (k1 ⟨20, [(0, _)]⟩ _ ?_)
  refine CWp.seqK fun Kk2 k2 => ?_
  refine CWp.seqK fun Kk3 k3 => ?_
  refine CWp.regionW [0, 5] ?_
  refine VC.s rfl (RVs.move rfl rfl (fun _ => rfl) ?_)
  refine VC.s rfl (RVs.bin rfl rfl rfl rfl (fun _ => ⟨⟨rfl, rfl⟩, rfl⟩) ?_)
  refine VC.nil (k3 ⟨20, [(0, _), (5, _)]⟩ _ ?_)
  refine CWp.condV rfl (fun hc1 => ?_) (fun hc1 => ?_)
  · try simp at hc1
    refine CWp.seqK fun Kk4 k4 => ?_
    refine CWp.regionW [2] ?_
    refine VC.s rfl (RVs.assign rfl rfl (fun _ => rfl) ?_)
    refine VC.nil (k4 ⟨20, [(2, _)]⟩ _ ?_)
    refine CWp.ret (q _ _ _ (.cons (.tmp rfl) .nil) ?_).1
    exact ⟨by simp [one, markT, hc1]; rfl, (List.prefix_refl H)⟩
  · try simp at hc1
    refine CWp.skip ?_
    refine k2 _ _ ?_
    refine CWp.seqK fun Kk5 k5 => ?_
    refine CWp.regionW [0, 3] ?_
    refine VC.s rfl (RVs.assign rfl rfl (fun _ => rfl) ?_)
    refine VC.nil (k5 ⟨20, [(0, _), (3, _)]⟩ _ ?_)
    refine CWp.seqK fun Kk6 k6 => ?_
    refine CWp.block ?_
    refine CWp.loopK (fun n T H' => ∃ (m : Nat) (out : List UInt8), T = ⟨20, [(0, .int .i64 (m : Int)), (3, .string (bs out))]⟩ ∧ n = m ∧ (digs k.toNat = digs m ++ out) ∧ (m ≤ k.toNat) ∧ H <+: H') (n := k.toNat) ⟨k.toNat, [], by rw [Int.toNat_of_nonneg (by omega)]; rfl, by first | rfl | simp, by simp, by omega, List.prefix_refl _⟩ ?_
    rintro n T Hl1 Kk7 k7 ⟨m, out, rfl, hn1, hd, hm, pl1⟩
    have p1 := (List.prefix_refl H).trans pl1
    refine CWp.seqK fun Kk8 k8 => ?_
    refine CWp.seqK fun Kk9 k9 => ?_
    refine CWp.regionW [0, 3, 7] ?_
    refine VC.s rfl (RVs.move rfl rfl (fun _ => rfl) ?_)
    refine VC.s rfl (RVs.bin rfl rfl rfl rfl (fun _ => ⟨⟨rfl, rfl⟩, rfl⟩) ?_)
    refine VC.nil (k9 ⟨20, [(0, _), (3, _), (7, _)]⟩ _ ?_)
    refine CWp.condV rfl (fun hc2 => ?_) (fun hc2 => ?_)
    · try simp at hc2
      refine CWp.skip ?_
      refine k8 _ _ ?_
      refine CWp.block ?_
      refine CWp.seqK fun Kk10 k10 => ?_
      refine CWp.regionW [0, 3] ?_
      refine VC.s rfl (RVs.move rfl rfl (fun _ => rfl) ?_)
      refine VC.s rfl (RVs.bin rfl rfl rfl rfl (fun _ => ⟨⟨rfl, rfl⟩, ⟨rfl, by omega⟩⟩) ?_)
      refine VC.s rfl (RVs.bin rfl rfl rfl rfl (fun _ => ⟨⟨rfl, rfl⟩, rfl⟩) ?_)
      refine VC.s rfl (RVs.conv_int rfl UnInt.h UnInt.h rfl (fun _ => rfl) ?_)
      refine VC.s rfl (RVs.buildS ElemOf.h ZeroOf.h rfl rfl rfl (by decide) rfl rfl rfl ?_)
      intro b1 H1 g1 l1 a1
      have lo1 := Nat.le_trans (List.IsPrefix.length_le p1) l1
      have ls1 := Nat.le_trans (List.IsPrefix.length_le (List.prefix_refl Hl1)) l1
      have sn1 := List.IsPrefix.trans (List.prefix_refl Hl1) g1
      have p2 := p1.trans g1
      refine VC.s rfl (RVs.text_of (l := [UInt8.ofNat (48 + m % 10)]) rfl UnSl.h UnStr.h UnInt.h rfl rfl (fun _ => ⟨rfl, .sl a1 rw_live (Nat.le_of_ble_eq_true rfl), by simp only [List.map_cons, List.map_nil]; rw [u8_digit]; rfl⟩) ?_)
      refine VC.s rfl (RVs.move rfl rfl (fun _ => rfl) ?_)
      refine VC.s rfl (RVs.bin rfl rfl rfl rfl (fun _ => ⟨⟨rfl, rfl⟩, by have := digs_len k.toNat; rw [hd] at this; simp at *; omega⟩) ?_)
      refine VC.s rfl (RVs.assign rfl rfl (fun _ => rfl) ?_)
      refine VC.nil (k10 ⟨20, [(0, _), (3, _)]⟩ _ ?_)
      refine CWp.regionW [0, 3] ?_
      refine VC.s rfl (RVs.move rfl rfl (fun _ => rfl) ?_)
      refine VC.s rfl (RVs.bin rfl rfl rfl rfl (fun _ => ⟨⟨rfl, rfl⟩, ⟨rfl, by omega⟩⟩) ?_)
      refine VC.s rfl (RVs.assign rfl rfl (fun _ => rfl) ?_)
      refine VC.nil (k7 _ ⟨20, [(0, _), (3, _)]⟩ _ ?_ ⟨m / 10, UInt8.ofNat (48 + m % 10) :: out, by have hw : IntKind.i64.wrap ((m : Int).tdiv 10) = ((m / 10 : Nat) : Int) := wrap_in (n := ((m / 10 : Nat) : Int)) (by omega); rw [hw]; simp, rfl, by rw [hd, digs_pos (by omega), List.append_assoc]; rfl, by omega, pl1.trans sn1⟩)
      omega
    · try simp at hc2
      refine CWp.exit ?_
      refine k6 _ _ ?_
      refine CWp.seqK fun Kk11 k11 => ?_
      refine CWp.regionW [2] ?_
      refine VC.s rfl (RVs.move rfl rfl (fun _ => rfl) ?_)
      refine VC.s rfl (RVs.bin rfl rfl rfl rfl (fun _ => ⟨⟨rfl, rfl⟩, by have := digs_len k.toNat; rw [hd] at this; simp at *; omega⟩) ?_)
      refine VC.s rfl (RVs.assign rfl rfl (fun _ => rfl) ?_)
      refine VC.nil (k11 ⟨20, [(2, _)]⟩ _ ?_)
      refine CWp.ret (q _ _ _ (.cons (.tmp rfl) .nil) ?_).1
      exact ⟨by simp [one, markT, Int.not_le.2 hc1, hd, show m = 0 by omega, digs_zero], p1⟩

theorem szIntS (va : Value) (xs : List Int) (left : Int) (H : AH) (hS : kInt.S H va xs) (h0 : 0 ≤ left) (h1 : left ≤ 1048576) : FWp Try.prog 50 [va, .int .i64 left] H (fun v' H' => v' = .int .i64 (szl xs.length left) ∧ H' = H) := by
  refine FWp.pure rfl fun H ph => ?_
  replace hS := hS.mono (hle ph)
  have hSl := hS.lim
  unfold lim at hSl
  obtain ⟨aa, ca, rfl, hSc⟩ := hS.form
  refine FWp.enterK Try.func50 rfl (by decide +kernel) rfl rfl fun Q q => ?_
  have hs0 := Sep.nil (H := H)
  refine CWp.seqK fun Kk1 k1 => ?_
  refine CWp.regionW [0, 1] ?_
  refine VC.s rfl (RVs.assign rfl rfl (fun _ => rfl) ?_)
  refine VC.nil (k1 ⟨12, [(0, _), (1, _)]⟩ _ ?_)
  refine CWp.seqK fun Kk2 k2 => ?_
  refine CWp.regionW [1] ?_
  refine VC.s rfl (RVs.move rfl rfl (fun _ => rfl) ?_)
  refine VC.s rfl (RVs.move rfl rfl (fun _ => rfl) ?_)
  refine VC.s rfl (RVs.len_slice rfl UnSl.h rfl (fun _ => rfl) ?_)
  refine VC.s rfl (RVs.arith (r := (left - xs.length)) rfl rfl rfl (by (try simp only [bl_bs]); first | exact wrap_in (by omega) | (rw [wrap_in (by omega)]; omega)) rfl (fun _ => ⟨⟨rfl, rfl⟩, rfl⟩) ?_)
  refine VC.s rfl (RVs.assign rfl rfl (fun _ => rfl) ?_)
  refine VC.nil (k2 ⟨12, [(1, _)]⟩ _ ?_)
  refine CWp.seqK fun Kk3 k3 => ?_
  refine CWp.seqK fun Kk4 k4 => ?_
  refine CWp.regionW [1, 10] ?_
  refine VC.s rfl (RVs.move rfl rfl (fun _ => rfl) ?_)
  refine VC.s rfl (RVs.bin rfl rfl rfl rfl (fun _ => ⟨⟨rfl, rfl⟩, rfl⟩) ?_)
  refine VC.nil (k4 ⟨12, [(1, _), (10, _)]⟩ _ ?_)
  refine CWp.condV rfl (fun hc1 => ?_) (fun hc1 => ?_)
  · try simp at hc1
    refine CWp.seqK fun Kk5 k5 => ?_
    refine CWp.regionW [4] ?_
    refine VC.s rfl (RVs.assign rfl rfl (fun _ => rfl) ?_)
    refine VC.nil (k5 ⟨12, [(4, _)]⟩ _ ?_)
    refine CWp.ret (q _ _ _ (.cons (.tmp rfl) .nil) ?_).1
    exact ⟨by simp [one, szl, hc1], (hs0.pre)⟩
  · try simp at hc1
    refine CWp.skip ?_
    refine k3 _ _ ?_
    refine CWp.seqK fun Kk6 k6 => ?_
    refine CWp.regionW [4] ?_
    refine VC.s rfl (RVs.move rfl rfl (fun _ => rfl) ?_)
    refine VC.s rfl (RVs.assign rfl rfl (fun _ => rfl) ?_)
    refine VC.nil (k6 ⟨12, [(4, _)]⟩ _ ?_)
    refine CWp.ret (q _ _ _ (.cons (.tmp rfl) .nil) ?_).1
    exact ⟨by simp only [one, szl]; rw [if_neg (by omega)], (hs0.pre)⟩

theorem szView (x : View) (x_uids : Value) (left : Int) (H : AH) (hS_x_uids : kInt.S H x_uids x.uids) (hb_x_box : x.box.length ≤ lim) (h0 : 0 ≤ left) (h1 : left ≤ 1048576) : FWp Try.prog 17 [.agg #[.string (bs x.box), .int .i64 x.valid, x_uids, .int .i64 x.mod], .int .i64 left] H (fun v' H' => v' = .int .i64 (szViewL x left) ∧ H' = H) := by
  refine FWp.pure rfl fun H ph => ?_
  replace hS_x_uids := hS_x_uids.mono (hle ph)
  unfold lim at hb_x_box
  refine FWp.enterK Try.func17 rfl (by decide +kernel) rfl rfl fun Q q => ?_
  have hs0 := Sep.nil (H := H)
  refine CWp.seqK fun Kk1 k1 => ?_
  refine CWp.regionW [1, 2] ?_
  refine VC.s rfl (RVs.box rfl TyOf.h rfl rfl rfl ?_)
  intro b1 H1 g1 l1 a1
  have hs1 := Sep.addB hs0 g1 l1 a1
  refine VC.s rfl (RVs.assign rfl rfl (fun _ => rfl) ?_)
  refine VC.nil (k1 ⟨19, [(1, _), (2, _)]⟩ _ ?_)
  refine CWp.seqK fun Kk2 k2 => ?_
  refine CWp.regionW [1, 2] ?_
  refine VC.s rfl (RVs.move rfl rfl (fun _ => rfl) ?_)
  refine VC.s rfl (RVs.fieldAddr rfl FieldOf.h (by decide) rfl (fun _ => rfl) ?_)
  refine VC.s rfl (RVs.load rfl TyOf.h rfl (fun _ => ⟨rfl, (Sep.at_ (i := 0) hs1 rfl), rw_live, rfl⟩) ?_)
  refine VC.s rfl (RVs.len_string rfl UnStr.h rfl (fun _ => rfl) ?_)
  refine VC.s rfl (RVs.arith (r := (left - x.box.length)) rfl rfl rfl (by (try simp only [bl_bs]); first | exact wrap_in (by omega) | (rw [wrap_in (by omega)]; omega)) rfl (fun _ => ⟨⟨rfl, rfl⟩, rfl⟩) ?_)
  refine VC.s rfl (RVs.assign rfl rfl (fun _ => rfl) ?_)
  refine VC.nil (k2 ⟨19, [(1, _), (2, _)]⟩ _ ?_)
  refine CWp.seqK fun Kk3 k3 => ?_
  refine CWp.seqK fun Kk4 k4 => ?_
  refine CWp.regionW [1, 2, 11] ?_
  refine VC.s rfl (RVs.move rfl rfl (fun _ => rfl) ?_)
  refine VC.s rfl (RVs.bin rfl rfl rfl rfl (fun _ => ⟨⟨rfl, rfl⟩, rfl⟩) ?_)
  refine VC.nil (k4 ⟨19, [(1, _), (2, _), (11, _)]⟩ _ ?_)
  refine CWp.condV rfl (fun hc1 => ?_) (fun hc1 => ?_)
  · try simp at hc1
    refine CWp.seqK fun Kk5 k5 => ?_
    refine CWp.regionW [4] ?_
    refine VC.s rfl (RVs.assign rfl rfl (fun _ => rfl) ?_)
    refine VC.nil (k5 ⟨19, [(4, _)]⟩ _ ?_)
    refine CWp.ret (q _ _ _ (.cons (.tmp rfl) .nil) ?_).1
    exact ⟨by simp [one, szViewL, hc1], (hs1.pre)⟩
  · try simp at hc1
    refine CWp.skip ?_
    refine k3 _ _ ?_
    refine CWp.seqK fun Kk6 k6 => ?_
    refine CWp.regionW [1] ?_
    refine VC.s rfl (RVs.fieldAddr rfl FieldOf.h (by decide) rfl (fun _ => rfl) ?_)
    refine VC.s rfl (RVs.load rfl TyOf.h rfl (fun _ => ⟨rfl, (Sep.at_ (i := 0) hs1 rfl), rw_live, rfl⟩) ?_)
    refine VC.s rfl (RVs.move rfl rfl (fun _ => rfl) ?_)
    refine VC.s rfl (RVs.callp rfl rfl rfl (fun _ => ⟨⟨rfl, rfl⟩, szIntS _ _ _ _ (hS_x_uids.mono (hle (hs1.pre))) (by omega) (by omega)⟩) ?_)
    refine VC.s rfl (RVs.assign rfl rfl (fun _ => rfl) ?_)
    refine VC.nil (k6 ⟨19, [(1, _)]⟩ _ ?_)
    refine CWp.seqK fun Kk7 k7 => ?_
    refine CWp.seqK fun Kk8 k8 => ?_
    refine CWp.regionW [1, 17] ?_
    refine VC.s rfl (RVs.move rfl rfl (fun _ => rfl) ?_)
    refine VC.s rfl (RVs.bin rfl rfl rfl rfl (fun _ => ⟨⟨rfl, rfl⟩, rfl⟩) ?_)
    refine VC.nil (k8 ⟨19, [(1, _), (17, _)]⟩ _ ?_)
    refine CWp.condV rfl (fun hc2 => ?_) (fun hc2 => ?_)
    · try simp at hc2
      refine CWp.seqK fun Kk9 k9 => ?_
      refine CWp.regionW [4] ?_
      refine VC.s rfl (RVs.assign rfl rfl (fun _ => rfl) ?_)
      refine VC.nil (k9 ⟨19, [(4, _)]⟩ _ ?_)
      refine CWp.ret (q _ _ _ (.cons (.tmp rfl) .nil) ?_).1
      exact ⟨by simp only [one, szViewL]; rw [if_neg (by omega)]; unfold szl at *; split at hc2 <;> simp_all, (hs1.pre)⟩
    · try simp at hc2
      refine CWp.skip ?_
      refine k7 _ _ ?_
      refine CWp.seqK fun Kk10 k10 => ?_
      refine CWp.regionW [4] ?_
      refine VC.s rfl (RVs.move rfl rfl (fun _ => rfl) ?_)
      refine VC.s rfl (RVs.assign rfl rfl (fun _ => rfl) ?_)
      refine VC.nil (k10 ⟨19, [(4, _)]⟩ _ ?_)
      refine CWp.ret (q _ _ _ (.cons (.tmp rfl) .nil) ?_).1
      exact ⟨by simp only [one, szViewL]; rw [if_neg (by omega)], (hs1.pre)⟩

theorem eqIntS (va vb : Value) (xs ys : List Int) (H : AH) (ha : kInt.S H va xs) (hb : kInt.S H vb ys) : FWp Try.prog 66 [va, vb] H (fun v' H' => v' = .bool (decide (xs = ys)) ∧ H' = H) := by
  refine FWp.pure rfl fun H ph => ?_
  replace ha := ha.mono (hle ph)
  replace hb := hb.mono (hle ph)
  have hal := ha.lim
  unfold lim at hal
  obtain ⟨aa, ca, rfl, hac⟩ := ha.form
  have hbl := hb.lim
  unfold lim at hbl
  obtain ⟨ab, cb, rfl, hbc⟩ := hb.form
  refine FWp.enterK Try.func66 rfl (by decide +kernel) rfl rfl fun Q q => ?_
  have hs0 := Sep.nil (H := H)
  refine CWp.seqK fun Kk1 k1 => ?_
  refine CWp.regionW [0, 1] ?_
  refine VC.s rfl (RVs.assign rfl rfl (fun _ => rfl) ?_)
  refine VC.nil (k1 ⟨26, [(0, _), (1, _)]⟩ _ ?_)
  refine CWp.seqK fun Kk2 k2 => ?_
  refine CWp.seqK fun Kk3 k3 => ?_
  refine CWp.regionW [0, 1, 10] ?_
  refine VC.s rfl (RVs.move rfl rfl (fun _ => rfl) ?_)
  refine VC.s rfl (RVs.len_slice rfl UnSl.h rfl (fun _ => rfl) ?_)
  refine VC.s rfl (RVs.move rfl rfl (fun _ => rfl) ?_)
  refine VC.s rfl (RVs.len_slice rfl UnSl.h rfl (fun _ => rfl) ?_)
  refine VC.s rfl (RVs.bin rfl rfl rfl rfl (fun _ => ⟨⟨rfl, rfl⟩, rfl⟩) ?_)
  refine VC.nil (k3 ⟨26, [(0, _), (1, _), (10, _)]⟩ _ ?_)
  refine CWp.condV rfl (fun hc1 => ?_) (fun hc1 => ?_)
  · try simp at hc1
    refine CWp.seqK fun Kk4 k4 => ?_
    refine CWp.regionW [4] ?_
    refine VC.s rfl (RVs.assign rfl rfl (fun _ => rfl) ?_)
    refine VC.nil (k4 ⟨26, [(4, _)]⟩ _ ?_)
    refine CWp.ret (q _ _ _ (.cons (.tmp rfl) .nil) ?_).1
    exact ⟨by simp [one, show ¬ xs = ys from fun h => hc1 (by rw [h])], (hs0.pre)⟩
  · try simp at hc1
    refine CWp.skip ?_
    refine k2 _ _ ?_
    refine CWp.seqK fun Kk5 k5 => ?_
    refine CWp.seqK fun Kk6 k6 => ?_
    refine CWp.regionW [0, 1, 5] ?_
    refine VC.s rfl (RVs.assign rfl rfl (fun _ => rfl) ?_)
    refine VC.nil (k6 ⟨26, [(0, _), (1, _), (5, _)]⟩ _ ?_)
    refine CWp.block ?_
    refine CWp.loopK (fun n T H' => ∃ i : Nat, T = ⟨26, [(0, .slice aa xs.length ca), (1, .slice ab ys.length cb), (5, .int .i64 (i : Int))]⟩ ∧ n = xs.length - i ∧ (i ≤ xs.length) ∧ (xs.take i = ys.take i) ∧ H <+: H') (n := xs.length) ⟨0, rfl, by first | rfl | simp, by omega, by simp, List.prefix_refl _⟩ ?_
    rintro n T Hl1 Kk7 k7 ⟨i, rfl, hn1, hi, heq, hs1⟩
    have hs2 := Sep.grow hs0 hs1
    have hs3 := Sep.nil (H := Hl1)
    refine CWp.seqK fun Kk8 k8 => ?_
    refine CWp.seqK fun Kk9 k9 => ?_
    refine CWp.regionW [0, 1, 5, 14] ?_
    refine VC.s rfl (RVs.move rfl rfl (fun _ => rfl) ?_)
    refine VC.s rfl (RVs.move rfl rfl (fun _ => rfl) ?_)
    refine VC.s rfl (RVs.len_slice rfl UnSl.h rfl (fun _ => rfl) ?_)
    refine VC.s rfl (RVs.bin rfl rfl rfl rfl (fun _ => ⟨⟨rfl, rfl⟩, rfl⟩) ?_)
    refine VC.nil (k9 ⟨26, [(0, _), (1, _), (5, _), (14, _)]⟩ _ ?_)
    refine CWp.condV rfl (fun hc2 => ?_) (fun hc2 => ?_)
    · try simp at hc2
      refine CWp.skip ?_
      refine k8 _ _ ?_
      refine CWp.seqK fun Kk10 k10 => ?_
      refine CWp.block ?_
      refine CWp.seqK fun Kk11 k11 => ?_
      refine CWp.regionDW [0, 1, 5, 25] [false, false, false, false, false, false, false, false, false] (by decide +kernel) ?_
      refine VC.s rfl (RVs.move rfl rfl (fun _ => rfl) ?_)
      refine VC.s rfl (RVs.move rfl rfl (fun _ => rfl) ?_)
      refine VC.s rfl (RVs.indexS rfl (ha.mono (hle (List.IsPrefix.trans hs2.pre (hs3.pre)))) rfl ElemOf.h rfl (fun _ => ⟨⟨rfl, rfl⟩, by omega, by omega⟩) ?_)
      intro id1 j1 u1 B1 e1
      obtain ⟨y1, hy1, e1⟩ := e1 rfl
      try simp only [Int.toNat_natCast] at hy1
      have hry1 := e1.r; obtain rfl := hry1
      refine VC.s rfl (RVs.loadF (k := kInt) (f := 0) rfl TyOf.h rfl (fun _ => ⟨rfl, e1, by decide, rfl⟩) ?_)
      refine VC.s rfl (RVs.move rfl rfl (fun _ => rfl) ?_)
      refine VC.s rfl (RVs.move rfl rfl (fun _ => rfl) ?_)
      refine VC.s rfl (RVs.indexS rfl (hb.mono (hle (List.IsPrefix.trans hs2.pre (hs3.pre)))) rfl ElemOf.h rfl (fun _ => ⟨⟨rfl, rfl⟩, by omega, by omega⟩) ?_)
      intro id2 j2 u2 B2 e2
      obtain ⟨y2, hy2, e2⟩ := e2 rfl
      try simp only [Int.toNat_natCast] at hy2
      have hry2 := e2.r; obtain rfl := hry2
      refine VC.s rfl (RVs.loadF (k := kInt) (f := 0) rfl TyOf.h rfl (fun _ => ⟨rfl, e2, by decide, rfl⟩) ?_)
      refine VC.s rfl (RVs.bin rfl rfl rfl rfl (fun _ => ⟨⟨rfl, rfl⟩, rfl⟩) ?_)
      refine VC.nil (k11 ⟨26, [(0, _), (1, _), (5, _), (25, _)]⟩ _ ?_)
      refine CWp.condV rfl (fun hc3 => ?_) (fun hc3 => ?_)
      · try simp at hc3
        refine CWp.seqK fun Kk12 k12 => ?_
        refine CWp.regionW [4] ?_
        refine VC.s rfl (RVs.assign rfl rfl (fun _ => rfl) ?_)
        refine VC.nil (k12 ⟨26, [(4, _)]⟩ _ ?_)
        refine CWp.ret (q _ _ _ (.cons (.tmp rfl) .nil) ?_).1
        exact ⟨by simp [one, ne_at hy1 hy2 hc3], (List.IsPrefix.trans hs2.pre (hs3.pre))⟩
      · try simp at hc3
        refine CWp.skip ?_
        refine k10 _ _ ?_
        refine CWp.regionW [0, 1, 5] ?_
        refine VC.s rfl (RVs.move rfl rfl (fun _ => rfl) ?_)
        refine VC.s rfl (RVs.arith (r := ((i + 1 : Nat) : Int)) rfl rfl rfl (by (try simp only [bl_bs]); first | exact wrap_in (by omega) | (rw [wrap_in (by omega)]; omega)) rfl (fun _ => ⟨⟨rfl, rfl⟩, rfl⟩) ?_)
        refine VC.s rfl (RVs.assign rfl rfl (fun _ => rfl) ?_)
        refine VC.nil (k7 _ ⟨26, [(0, _), (1, _), (5, _)]⟩ _ ?_ ⟨i + 1, rfl, rfl, by omega, take_succ heq hy1 hy2 hc3, List.IsPrefix.trans hs1 hs3.pre⟩)
        omega
    · try simp at hc2
      refine CWp.exit ?_
      refine k5 _ _ ?_
      refine CWp.seqK fun Kk13 k13 => ?_
      refine CWp.regionW [4] ?_
      refine VC.s rfl (RVs.assign rfl rfl (fun _ => rfl) ?_)
      refine VC.nil (k13 ⟨26, [(4, _)]⟩ _ ?_)
      refine CWp.ret (q _ _ _ (.cons (.tmp rfl) .nil) ?_).1
      exact ⟨by simp [one, take_all heq (by omega) (by omega)], (List.IsPrefix.trans hs2.pre (hs3.pre))⟩

theorem eqView (x y : View) (x_uids y_uids : Value) (H : AH) (hS_x_uids : kInt.S H x_uids x.uids) (hS_y_uids : kInt.S H y_uids y.uids) : FWp Try.prog 23 [.agg #[.string (bs x.box), .int .i64 x.valid, x_uids, .int .i64 x.mod], .agg #[.string (bs y.box), .int .i64 y.valid, y_uids, .int .i64 y.mod]] H (fun v' H' => v' = .bool (decide (x = y)) ∧ H' = H) := by
  refine FWp.pure rfl fun H ph => ?_
  replace hS_x_uids := hS_x_uids.mono (hle ph)
  replace hS_y_uids := hS_y_uids.mono (hle ph)
  refine FWp.enterK Try.func23 rfl (by decide +kernel) rfl rfl fun Q q => ?_
  have hs0 := Sep.nil (H := H)
  refine CWp.seqK fun Kk1 k1 => ?_
  refine CWp.regionW [2, 3] ?_
  refine VC.s rfl (RVs.box rfl TyOf.h rfl rfl rfl ?_)
  intro b1 H1 g1 l1 a1
  have hs1 := Sep.addB hs0 g1 l1 a1
  refine VC.s rfl (RVs.box rfl TyOf.h rfl rfl rfl ?_)
  intro b2 H2 g2 l2 a2
  have hs2 := Sep.addB hs1 g2 l2 a2
  refine VC.s rfl (RVs.assign rfl rfl (fun _ => rfl) ?_)
  refine VC.nil (k1 ⟨26, [(2, _), (3, _)]⟩ _ ?_)
  refine CWp.seqK fun Kk2 k2 => ?_
  refine CWp.seqK fun Kk3 k3 => ?_
  refine CWp.regionW [2, 3, 9] ?_
  refine VC.s rfl (RVs.fieldAddr rfl FieldOf.h (by decide) rfl (fun _ => rfl) ?_)
  refine VC.s rfl (RVs.load rfl TyOf.h rfl (fun _ => ⟨rfl, (Sep.at_ (i := 1) hs2 rfl), rw_live, rfl⟩) ?_)
  refine VC.s rfl (RVs.fieldAddr rfl FieldOf.h (by decide) rfl (fun _ => rfl) ?_)
  refine VC.s rfl (RVs.load rfl TyOf.h rfl (fun _ => ⟨rfl, (Sep.at_ (i := 0) hs2 rfl), rw_live, rfl⟩) ?_)
  refine VC.s rfl (RVs.bin rfl rfl rfl rfl (fun _ => ⟨⟨rfl, rfl⟩, trivial⟩) ?_)
  refine VC.nil (k3 ⟨26, [(2, _), (3, _), (9, _)]⟩ _ ?_)
  refine CWp.condV rfl (fun hc1 => ?_) (fun hc1 => ?_)
  · try simp at hc1
    refine CWp.seqK fun Kk4 k4 => ?_
    refine CWp.regionW [4] ?_
    refine VC.s rfl (RVs.assign rfl rfl (fun _ => rfl) ?_)
    refine VC.nil (k4 ⟨26, [(4, _)]⟩ _ ?_)
    refine CWp.ret (q _ _ _ (.cons (.tmp rfl) .nil) ?_).1
    exact ⟨by simp [one, show ¬ x = y from fun h => hc1 (by rw [h])], (hs2.pre)⟩
  · try simp at hc1
    refine CWp.skip ?_
    refine k2 _ _ ?_
    refine CWp.seqK fun Kk5 k5 => ?_
    refine CWp.seqK fun Kk6 k6 => ?_
    refine CWp.regionW [2, 3, 14] ?_
    refine VC.s rfl (RVs.fieldAddr rfl FieldOf.h (by decide) rfl (fun _ => rfl) ?_)
    refine VC.s rfl (RVs.load rfl TyOf.h rfl (fun _ => ⟨rfl, (Sep.at_ (i := 1) hs2 rfl), rw_live, rfl⟩) ?_)
    refine VC.s rfl (RVs.fieldAddr rfl FieldOf.h (by decide) rfl (fun _ => rfl) ?_)
    refine VC.s rfl (RVs.load rfl TyOf.h rfl (fun _ => ⟨rfl, (Sep.at_ (i := 0) hs2 rfl), rw_live, rfl⟩) ?_)
    refine VC.s rfl (RVs.bin rfl rfl rfl rfl (fun _ => ⟨⟨rfl, rfl⟩, rfl⟩) ?_)
    refine VC.nil (k6 ⟨26, [(2, _), (3, _), (14, _)]⟩ _ ?_)
    refine CWp.condV rfl (fun hc2 => ?_) (fun hc2 => ?_)
    · try simp at hc2
      refine CWp.seqK fun Kk7 k7 => ?_
      refine CWp.regionW [4] ?_
      refine VC.s rfl (RVs.assign rfl rfl (fun _ => rfl) ?_)
      refine VC.nil (k7 ⟨26, [(4, _)]⟩ _ ?_)
      refine CWp.ret (q _ _ _ (.cons (.tmp rfl) .nil) ?_).1
      exact ⟨by simp [one, show ¬ x = y from fun h => hc2 (by rw [h])], (hs2.pre)⟩
    · try simp at hc2
      refine CWp.skip ?_
      refine k5 _ _ ?_
      refine CWp.seqK fun Kk8 k8 => ?_
      refine CWp.seqK fun Kk9 k9 => ?_
      refine CWp.regionW [2, 3, 20] ?_
      refine VC.s rfl (RVs.fieldAddr rfl FieldOf.h (by decide) rfl (fun _ => rfl) ?_)
      refine VC.s rfl (RVs.load rfl TyOf.h rfl (fun _ => ⟨rfl, (Sep.at_ (i := 1) hs2 rfl), rw_live, rfl⟩) ?_)
      refine VC.s rfl (RVs.fieldAddr rfl FieldOf.h (by decide) rfl (fun _ => rfl) ?_)
      refine VC.s rfl (RVs.load rfl TyOf.h rfl (fun _ => ⟨rfl, (Sep.at_ (i := 0) hs2 rfl), rw_live, rfl⟩) ?_)
      refine VC.s rfl (RVs.callp rfl rfl rfl (fun _ => ⟨⟨rfl, rfl⟩, eqIntS _ _ _ _ _ (hS_x_uids.mono (hle (hs2.pre))) (hS_y_uids.mono (hle (hs2.pre)))⟩) ?_)
      refine VC.s rfl (RVs.not rfl rfl (fun _ => rfl) ?_)
      refine VC.nil (k9 ⟨26, [(2, _), (3, _), (20, _)]⟩ _ ?_)
      refine CWp.condV rfl (fun hc3 => ?_) (fun hc3 => ?_)
      · try simp at hc3
        refine CWp.seqK fun Kk10 k10 => ?_
        refine CWp.regionW [4] ?_
        refine VC.s rfl (RVs.assign rfl rfl (fun _ => rfl) ?_)
        refine VC.nil (k10 ⟨26, [(4, _)]⟩ _ ?_)
        refine CWp.ret (q _ _ _ (.cons (.tmp rfl) .nil) ?_).1
        exact ⟨by simp [one, show ¬ x = y from fun h => hc3 (by rw [h])], (hs2.pre)⟩
      · try simp at hc3
        refine CWp.skip ?_
        refine k8 _ _ ?_
        refine CWp.seqK fun Kk11 k11 => ?_
        refine CWp.seqK fun Kk12 k12 => ?_
        refine CWp.regionW [25] ?_
        refine VC.s rfl (RVs.fieldAddr rfl FieldOf.h (by decide) rfl (fun _ => rfl) ?_)
        refine VC.s rfl (RVs.load rfl TyOf.h rfl (fun _ => ⟨rfl, (Sep.at_ (i := 1) hs2 rfl), rw_live, rfl⟩) ?_)
        refine VC.s rfl (RVs.fieldAddr rfl FieldOf.h (by decide) rfl (fun _ => rfl) ?_)
        refine VC.s rfl (RVs.load rfl TyOf.h rfl (fun _ => ⟨rfl, (Sep.at_ (i := 0) hs2 rfl), rw_live, rfl⟩) ?_)
        refine VC.s rfl (RVs.bin rfl rfl rfl rfl (fun _ => ⟨⟨rfl, rfl⟩, rfl⟩) ?_)
        refine VC.nil (k12 ⟨26, [(25, _)]⟩ _ ?_)
        refine CWp.condV rfl (fun hc4 => ?_) (fun hc4 => ?_)
        · try simp at hc4
          refine CWp.seqK fun Kk13 k13 => ?_
          refine CWp.regionW [4] ?_
          refine VC.s rfl (RVs.assign rfl rfl (fun _ => rfl) ?_)
          refine VC.nil (k13 ⟨26, [(4, _)]⟩ _ ?_)
          refine CWp.ret (q _ _ _ (.cons (.tmp rfl) .nil) ?_).1
          exact ⟨by simp [one, show ¬ x = y from fun h => hc4 (by rw [h])], (hs2.pre)⟩
        · try simp at hc4
          refine CWp.skip ?_
          refine k11 _ _ ?_
          refine CWp.seqK fun Kk14 k14 => ?_
          refine CWp.regionW [4] ?_
          refine VC.s rfl (RVs.assign rfl rfl (fun _ => rfl) ?_)
          refine VC.nil (k14 ⟨26, [(4, _)]⟩ _ ?_)
          refine CWp.ret (q _ _ _ (.cons (.tmp rfl) .nil) ?_).1
          exact ⟨by cases x; cases y; simp_all [one], (hs2.pre)⟩

theorem eqRange (x y : Range) (H : AH) : FWp Try.prog 80 [.agg #[.int .i64 x.lo, .int .i64 x.hi], .agg #[.int .i64 y.lo, .int .i64 y.hi]] H (fun v' H' => v' = .bool (decide (x = y)) ∧ H' = H) := by
  refine FWp.pure rfl fun H ph => ?_
  refine FWp.enterK Try.func80 rfl (by decide +kernel) rfl rfl fun Q q => ?_
  have hs0 := Sep.nil (H := H)
  refine CWp.seqK fun Kk1 k1 => ?_
  refine CWp.regionW [2, 3] ?_
  refine VC.s rfl (RVs.box rfl TyOf.h rfl rfl rfl ?_)
  intro b1 H1 g1 l1 a1
  have hs1 := Sep.addB hs0 g1 l1 a1
  refine VC.s rfl (RVs.box rfl TyOf.h rfl rfl rfl ?_)
  intro b2 H2 g2 l2 a2
  have hs2 := Sep.addB hs1 g2 l2 a2
  refine VC.s rfl (RVs.assign rfl rfl (fun _ => rfl) ?_)
  refine VC.nil (k1 ⟨15, [(2, _), (3, _)]⟩ _ ?_)
  refine CWp.seqK fun Kk2 k2 => ?_
  refine CWp.seqK fun Kk3 k3 => ?_
  refine CWp.regionW [2, 3, 9] ?_
  refine VC.s rfl (RVs.fieldAddr rfl FieldOf.h (by decide) rfl (fun _ => rfl) ?_)
  refine VC.s rfl (RVs.load rfl TyOf.h rfl (fun _ => ⟨rfl, (Sep.at_ (i := 1) hs2 rfl), rw_live, rfl⟩) ?_)
  refine VC.s rfl (RVs.fieldAddr rfl FieldOf.h (by decide) rfl (fun _ => rfl) ?_)
  refine VC.s rfl (RVs.load rfl TyOf.h rfl (fun _ => ⟨rfl, (Sep.at_ (i := 0) hs2 rfl), rw_live, rfl⟩) ?_)
  refine VC.s rfl (RVs.bin rfl rfl rfl rfl (fun _ => ⟨⟨rfl, rfl⟩, rfl⟩) ?_)
  refine VC.nil (k3 ⟨15, [(2, _), (3, _), (9, _)]⟩ _ ?_)
  refine CWp.condV rfl (fun hc1 => ?_) (fun hc1 => ?_)
  · try simp at hc1
    refine CWp.seqK fun Kk4 k4 => ?_
    refine CWp.regionW [4] ?_
    refine VC.s rfl (RVs.assign rfl rfl (fun _ => rfl) ?_)
    refine VC.nil (k4 ⟨15, [(4, _)]⟩ _ ?_)
    refine CWp.ret (q _ _ _ (.cons (.tmp rfl) .nil) ?_).1
    exact ⟨by simp [one, show ¬ x = y from fun h => hc1 (by rw [h])], (hs2.pre)⟩
  · try simp at hc1
    refine CWp.skip ?_
    refine k2 _ _ ?_
    refine CWp.seqK fun Kk5 k5 => ?_
    refine CWp.seqK fun Kk6 k6 => ?_
    refine CWp.regionW [14] ?_
    refine VC.s rfl (RVs.fieldAddr rfl FieldOf.h (by decide) rfl (fun _ => rfl) ?_)
    refine VC.s rfl (RVs.load rfl TyOf.h rfl (fun _ => ⟨rfl, (Sep.at_ (i := 1) hs2 rfl), rw_live, rfl⟩) ?_)
    refine VC.s rfl (RVs.fieldAddr rfl FieldOf.h (by decide) rfl (fun _ => rfl) ?_)
    refine VC.s rfl (RVs.load rfl TyOf.h rfl (fun _ => ⟨rfl, (Sep.at_ (i := 0) hs2 rfl), rw_live, rfl⟩) ?_)
    refine VC.s rfl (RVs.bin rfl rfl rfl rfl (fun _ => ⟨⟨rfl, rfl⟩, rfl⟩) ?_)
    refine VC.nil (k6 ⟨15, [(14, _)]⟩ _ ?_)
    refine CWp.condV rfl (fun hc2 => ?_) (fun hc2 => ?_)
    · try simp at hc2
      refine CWp.seqK fun Kk7 k7 => ?_
      refine CWp.regionW [4] ?_
      refine VC.s rfl (RVs.assign rfl rfl (fun _ => rfl) ?_)
      refine VC.nil (k7 ⟨15, [(4, _)]⟩ _ ?_)
      refine CWp.ret (q _ _ _ (.cons (.tmp rfl) .nil) ?_).1
      exact ⟨by simp [one, show ¬ x = y from fun h => hc2 (by rw [h])], (hs2.pre)⟩
    · try simp at hc2
      refine CWp.skip ?_
      refine k5 _ _ ?_
      refine CWp.seqK fun Kk8 k8 => ?_
      refine CWp.regionW [4] ?_
      refine VC.s rfl (RVs.assign rfl rfl (fun _ => rfl) ?_)
      refine VC.nil (k8 ⟨15, [(4, _)]⟩ _ ?_)
      refine CWp.ret (q _ _ _ (.cons (.tmp rfl) .nil) ?_).1
      exact ⟨by cases x; cases y; simp_all [one], (hs2.pre)⟩

theorem eqRangeS (va vb : Value) (xs ys : List Range) (H : AH) (ha : kRange.S H va xs) (hb : kRange.S H vb ys) : FWp Try.prog 33 [va, vb] H (fun v' H' => v' = .bool (decide (xs = ys)) ∧ H' = H) := by
  refine FWp.pure rfl fun H ph => ?_
  replace ha := ha.mono (hle ph)
  replace hb := hb.mono (hle ph)
  have hal := ha.lim
  unfold lim at hal
  obtain ⟨aa, ca, rfl, hac⟩ := ha.form
  have hbl := hb.lim
  unfold lim at hbl
  obtain ⟨ab, cb, rfl, hbc⟩ := hb.form
  refine FWp.enterK Try.func33 rfl (by decide +kernel) rfl rfl fun Q q => ?_
  have hs0 := Sep.nil (H := H)
  refine CWp.seqK fun Kk1 k1 => ?_
  refine CWp.regionW [0, 1] ?_
  refine VC.s rfl (RVs.assign rfl rfl (fun _ => rfl) ?_)
  refine VC.nil (k1 ⟨27, [(0, _), (1, _)]⟩ _ ?_)
  refine CWp.seqK fun Kk2 k2 => ?_
  refine CWp.seqK fun Kk3 k3 => ?_
  refine CWp.regionW [0, 1, 10] ?_
  refine VC.s rfl (RVs.move rfl rfl (fun _ => rfl) ?_)
  refine VC.s rfl (RVs.len_slice rfl UnSl.h rfl (fun _ => rfl) ?_)
  refine VC.s rfl (RVs.move rfl rfl (fun _ => rfl) ?_)
  refine VC.s rfl (RVs.len_slice rfl UnSl.h rfl (fun _ => rfl) ?_)
  refine VC.s rfl (RVs.bin rfl rfl rfl rfl (fun _ => ⟨⟨rfl, rfl⟩, rfl⟩) ?_)
  refine VC.nil (k3 ⟨27, [(0, _), (1, _), (10, _)]⟩ _ ?_)
  refine CWp.condV rfl (fun hc1 => ?_) (fun hc1 => ?_)
  · try simp at hc1
    refine CWp.seqK fun Kk4 k4 => ?_
    refine CWp.regionW [4] ?_
    refine VC.s rfl (RVs.assign rfl rfl (fun _ => rfl) ?_)
    refine VC.nil (k4 ⟨27, [(4, _)]⟩ _ ?_)
    refine CWp.ret (q _ _ _ (.cons (.tmp rfl) .nil) ?_).1
    exact ⟨by simp [one, show ¬ xs = ys from fun h => hc1 (by rw [h])], (hs0.pre)⟩
  · try simp at hc1
    refine CWp.skip ?_
    refine k2 _ _ ?_
    refine CWp.seqK fun Kk5 k5 => ?_
    refine CWp.seqK fun Kk6 k6 => ?_
    refine CWp.regionW [0, 1, 5] ?_
    refine VC.s rfl (RVs.assign rfl rfl (fun _ => rfl) ?_)
    refine VC.nil (k6 ⟨27, [(0, _), (1, _), (5, _)]⟩ _ ?_)
    refine CWp.block ?_
    refine CWp.loopK (fun n T H' => ∃ i : Nat, T = ⟨27, [(0, .slice aa xs.length ca), (1, .slice ab ys.length cb), (5, .int .i64 (i : Int))]⟩ ∧ n = xs.length - i ∧ (i ≤ xs.length) ∧ (xs.take i = ys.take i) ∧ H <+: H') (n := xs.length) ⟨0, rfl, by first | rfl | simp, by omega, by simp, List.prefix_refl _⟩ ?_
    rintro n T Hl1 Kk7 k7 ⟨i, rfl, hn1, hi, heq, hs1⟩
    have hs2 := Sep.grow hs0 hs1
    have hs3 := Sep.nil (H := Hl1)
    refine CWp.seqK fun Kk8 k8 => ?_
    refine CWp.seqK fun Kk9 k9 => ?_
    refine CWp.regionW [0, 1, 5, 14] ?_
    refine VC.s rfl (RVs.move rfl rfl (fun _ => rfl) ?_)
    refine VC.s rfl (RVs.move rfl rfl (fun _ => rfl) ?_)
    refine VC.s rfl (RVs.len_slice rfl UnSl.h rfl (fun _ => rfl) ?_)
    refine VC.s rfl (RVs.bin rfl rfl rfl rfl (fun _ => ⟨⟨rfl, rfl⟩, rfl⟩) ?_)
    refine VC.nil (k9 ⟨27, [(0, _), (1, _), (5, _), (14, _)]⟩ _ ?_)
    refine CWp.condV rfl (fun hc2 => ?_) (fun hc2 => ?_)
    · try simp at hc2
      refine CWp.skip ?_
      refine k8 _ _ ?_
      refine CWp.seqK fun Kk10 k10 => ?_
      refine CWp.block ?_
      refine CWp.seqK fun Kk11 k11 => ?_
      refine CWp.regionDW [0, 1, 5, 26] [false, false, false, false, false, false, false, false, false, false] (by decide +kernel) ?_
      refine VC.s rfl (RVs.move rfl rfl (fun _ => rfl) ?_)
      refine VC.s rfl (RVs.move rfl rfl (fun _ => rfl) ?_)
      refine VC.s rfl (RVs.indexS rfl (ha.mono (hle (List.IsPrefix.trans hs2.pre (hs3.pre)))) rfl ElemOf.h rfl (fun _ => ⟨⟨rfl, rfl⟩, by omega, by omega⟩) ?_)
      intro id1 j1 u1 B1 e1
      obtain ⟨y1, hy1, e1⟩ := e1 rfl
      try simp only [Int.toNat_natCast] at hy1
      obtain ⟨rfl, hwy1⟩ := e1.r
      refine VC.s rfl (RVs.loadE (k := kRange) rfl TyOf.h rfl (fun _ => ⟨rfl, e1⟩) ?_)
      refine VC.s rfl (RVs.move rfl rfl (fun _ => rfl) ?_)
      refine VC.s rfl (RVs.move rfl rfl (fun _ => rfl) ?_)
      refine VC.s rfl (RVs.indexS rfl (hb.mono (hle (List.IsPrefix.trans hs2.pre (hs3.pre)))) rfl ElemOf.h rfl (fun _ => ⟨⟨rfl, rfl⟩, by omega, by omega⟩) ?_)
      intro id2 j2 u2 B2 e2
      obtain ⟨y2, hy2, e2⟩ := e2 rfl
      try simp only [Int.toNat_natCast] at hy2
      obtain ⟨rfl, hwy2⟩ := e2.r
      refine VC.s rfl (RVs.loadE (k := kRange) rfl TyOf.h rfl (fun _ => ⟨rfl, e2⟩) ?_)
      refine VC.s rfl (RVs.callp rfl rfl rfl (fun _ => ⟨⟨rfl, rfl⟩, eqRange _ _ _ ⟩) ?_)
      refine VC.s rfl (RVs.not rfl rfl (fun _ => rfl) ?_)
      refine VC.nil (k11 ⟨27, [(0, _), (1, _), (5, _), (26, _)]⟩ _ ?_)
      refine CWp.condV rfl (fun hc3 => ?_) (fun hc3 => ?_)
      · try simp at hc3
        refine CWp.seqK fun Kk12 k12 => ?_
        refine CWp.regionW [4] ?_
        refine VC.s rfl (RVs.assign rfl rfl (fun _ => rfl) ?_)
        refine VC.nil (k12 ⟨27, [(4, _)]⟩ _ ?_)
        refine CWp.ret (q _ _ _ (.cons (.tmp rfl) .nil) ?_).1
        exact ⟨by simp [one, ne_at hy1 hy2 hc3], (List.IsPrefix.trans hs2.pre (hs3.pre))⟩
      · try simp at hc3
        refine CWp.skip ?_
        refine k10 _ _ ?_
        refine CWp.regionW [0, 1, 5] ?_
        refine VC.s rfl (RVs.move rfl rfl (fun _ => rfl) ?_)
        refine VC.s rfl (RVs.arith (r := ((i + 1 : Nat) : Int)) rfl rfl rfl (by (try simp only [bl_bs]); first | exact wrap_in (by omega) | (rw [wrap_in (by omega)]; omega)) rfl (fun _ => ⟨⟨rfl, rfl⟩, rfl⟩) ?_)
        refine VC.s rfl (RVs.assign rfl rfl (fun _ => rfl) ?_)
        refine VC.nil (k7 _ ⟨27, [(0, _), (1, _), (5, _)]⟩ _ ?_ ⟨i + 1, rfl, rfl, by omega, take_succ heq hy1 hy2 hc3, List.IsPrefix.trans hs1 hs3.pre⟩)
        omega
    · try simp at hc2
      refine CWp.exit ?_
      refine k5 _ _ ?_
      refine CWp.seqK fun Kk13 k13 => ?_
      refine CWp.regionW [4] ?_
      refine VC.s rfl (RVs.assign rfl rfl (fun _ => rfl) ?_)
      refine VC.nil (k13 ⟨27, [(4, _)]⟩ _ ?_)
      refine CWp.ret (q _ _ _ (.cons (.tmp rfl) .nil) ?_).1
      exact ⟨by simp [one, take_all heq (by omega) (by omega)], (List.IsPrefix.trans hs2.pre (hs3.pre))⟩

theorem eqLine (x y : Line) (x_set y_set : Value) (H : AH) (hS_x_set : kRange.S H x_set x.set) (hS_y_set : kRange.S H y_set y.set) : FWp Try.prog 47 [.agg #[.int .i64 x.kind, .int .i64 x.num, .int .i64 x.uid, .int .i64 x.flags, .int .i64 x.mod, x_set, .bool x.all], .agg #[.int .i64 y.kind, .int .i64 y.num, .int .i64 y.uid, .int .i64 y.flags, .int .i64 y.mod, y_set, .bool y.all]] H (fun v' H' => v' = .bool (decide (x = y)) ∧ H' = H) := by
  refine FWp.pure rfl fun H ph => ?_
  replace hS_x_set := hS_x_set.mono (hle ph)
  replace hS_y_set := hS_y_set.mono (hle ph)
  refine FWp.enterK Try.func47 rfl (by decide +kernel) rfl rfl fun Q q => ?_
  have hs0 := Sep.nil (H := H)
  refine CWp.seqK fun Kk1 k1 => ?_
  refine CWp.regionW [2, 3] ?_
  refine VC.s rfl (RVs.box rfl TyOf.h rfl rfl rfl ?_)
  intro b1 H1 g1 l1 a1
  have hs1 := Sep.addB hs0 g1 l1 a1
  refine VC.s rfl (RVs.box rfl TyOf.h rfl rfl rfl ?_)
  intro b2 H2 g2 l2 a2
  have hs2 := Sep.addB hs1 g2 l2 a2
  refine VC.s rfl (RVs.assign rfl rfl (fun _ => rfl) ?_)
  refine VC.nil (k1 ⟨41, [(2, _), (3, _)]⟩ _ ?_)
  refine CWp.seqK fun Kk2 k2 => ?_
  refine CWp.seqK fun Kk3 k3 => ?_
  refine CWp.regionW [2, 3, 9] ?_
  refine VC.s rfl (RVs.fieldAddr rfl FieldOf.h (by decide) rfl (fun _ => rfl) ?_)
  refine VC.s rfl (RVs.load rfl TyOf.h rfl (fun _ => ⟨rfl, (Sep.at_ (i := 1) hs2 rfl), rw_live, rfl⟩) ?_)
  refine VC.s rfl (RVs.fieldAddr rfl FieldOf.h (by decide) rfl (fun _ => rfl) ?_)
  refine VC.s rfl (RVs.load rfl TyOf.h rfl (fun _ => ⟨rfl, (Sep.at_ (i := 0) hs2 rfl), rw_live, rfl⟩) ?_)
  refine VC.s rfl (RVs.bin rfl rfl rfl rfl (fun _ => ⟨⟨rfl, rfl⟩, rfl⟩) ?_)
  refine VC.nil (k3 ⟨41, [(2, _), (3, _), (9, _)]⟩ _ ?_)
  refine CWp.condV rfl (fun hc1 => ?_) (fun hc1 => ?_)
  · try simp at hc1
    refine CWp.seqK fun Kk4 k4 => ?_
    refine CWp.regionW [4] ?_
    refine VC.s rfl (RVs.assign rfl rfl (fun _ => rfl) ?_)
    refine VC.nil (k4 ⟨41, [(4, _)]⟩ _ ?_)
    refine CWp.ret (q _ _ _ (.cons (.tmp rfl) .nil) ?_).1
    exact ⟨by simp [one, show ¬ x = y from fun h => hc1 (by rw [h])], (hs2.pre)⟩
  · try simp at hc1
    refine CWp.skip ?_
    refine k2 _ _ ?_
    refine CWp.seqK fun Kk5 k5 => ?_
    refine CWp.seqK fun Kk6 k6 => ?_
    refine CWp.regionW [2, 3, 14] ?_
    refine VC.s rfl (RVs.fieldAddr rfl FieldOf.h (by decide) rfl (fun _ => rfl) ?_)
    refine VC.s rfl (RVs.load rfl TyOf.h rfl (fun _ => ⟨rfl, (Sep.at_ (i := 1) hs2 rfl), rw_live, rfl⟩) ?_)
    refine VC.s rfl (RVs.fieldAddr rfl FieldOf.h (by decide) rfl (fun _ => rfl) ?_)
    refine VC.s rfl (RVs.load rfl TyOf.h rfl (fun _ => ⟨rfl, (Sep.at_ (i := 0) hs2 rfl), rw_live, rfl⟩) ?_)
    refine VC.s rfl (RVs.bin rfl rfl rfl rfl (fun _ => ⟨⟨rfl, rfl⟩, rfl⟩) ?_)
    refine VC.nil (k6 ⟨41, [(2, _), (3, _), (14, _)]⟩ _ ?_)
    refine CWp.condV rfl (fun hc2 => ?_) (fun hc2 => ?_)
    · try simp at hc2
      refine CWp.seqK fun Kk7 k7 => ?_
      refine CWp.regionW [4] ?_
      refine VC.s rfl (RVs.assign rfl rfl (fun _ => rfl) ?_)
      refine VC.nil (k7 ⟨41, [(4, _)]⟩ _ ?_)
      refine CWp.ret (q _ _ _ (.cons (.tmp rfl) .nil) ?_).1
      exact ⟨by simp [one, show ¬ x = y from fun h => hc2 (by rw [h])], (hs2.pre)⟩
    · try simp at hc2
      refine CWp.skip ?_
      refine k5 _ _ ?_
      refine CWp.seqK fun Kk8 k8 => ?_
      refine CWp.seqK fun Kk9 k9 => ?_
      refine CWp.regionW [2, 3, 19] ?_
      refine VC.s rfl (RVs.fieldAddr rfl FieldOf.h (by decide) rfl (fun _ => rfl) ?_)
      refine VC.s rfl (RVs.load rfl TyOf.h rfl (fun _ => ⟨rfl, (Sep.at_ (i := 1) hs2 rfl), rw_live, rfl⟩) ?_)
      refine VC.s rfl (RVs.fieldAddr rfl FieldOf.h (by decide) rfl (fun _ => rfl) ?_)
      refine VC.s rfl (RVs.load rfl TyOf.h rfl (fun _ => ⟨rfl, (Sep.at_ (i := 0) hs2 rfl), rw_live, rfl⟩) ?_)
      refine VC.s rfl (RVs.bin rfl rfl rfl rfl (fun _ => ⟨⟨rfl, rfl⟩, rfl⟩) ?_)
      refine VC.nil (k9 ⟨41, [(2, _), (3, _), (19, _)]⟩ _ ?_)
      refine CWp.condV rfl (fun hc3 => ?_) (fun hc3 => ?_)
      · try simp at hc3
        refine CWp.seqK fun Kk10 k10 => ?_
        refine CWp.regionW [4] ?_
        refine VC.s rfl (RVs.assign rfl rfl (fun _ => rfl) ?_)
        refine VC.nil (k10 ⟨41, [(4, _)]⟩ _ ?_)
        refine CWp.ret (q _ _ _ (.cons (.tmp rfl) .nil) ?_).1
        exact ⟨by simp [one, show ¬ x = y from fun h => hc3 (by rw [h])], (hs2.pre)⟩
      · try simp at hc3
        refine CWp.skip ?_
        refine k8 _ _ ?_
        refine CWp.seqK fun Kk11 k11 => ?_
        refine CWp.seqK fun Kk12 k12 => ?_
        refine CWp.regionW [2, 3, 24] ?_
        refine VC.s rfl (RVs.fieldAddr rfl FieldOf.h (by decide) rfl (fun _ => rfl) ?_)
        refine VC.s rfl (RVs.load rfl TyOf.h rfl (fun _ => ⟨rfl, (Sep.at_ (i := 1) hs2 rfl), rw_live, rfl⟩) ?_)
        refine VC.s rfl (RVs.fieldAddr rfl FieldOf.h (by decide) rfl (fun _ => rfl) ?_)
        refine VC.s rfl (RVs.load rfl TyOf.h rfl (fun _ => ⟨rfl, (Sep.at_ (i := 0) hs2 rfl), rw_live, rfl⟩) ?_)
        refine VC.s rfl (RVs.bin rfl rfl rfl rfl (fun _ => ⟨⟨rfl, rfl⟩, rfl⟩) ?_)
        refine VC.nil (k12 ⟨41, [(2, _), (3, _), (24, _)]⟩ _ ?_)
        refine CWp.condV rfl (fun hc4 => ?_) (fun hc4 => ?_)
        · try simp at hc4
          refine CWp.seqK fun Kk13 k13 => ?_
          refine CWp.regionW [4] ?_
          refine VC.s rfl (RVs.assign rfl rfl (fun _ => rfl) ?_)
          refine VC.nil (k13 ⟨41, [(4, _)]⟩ _ ?_)
          refine CWp.ret (q _ _ _ (.cons (.tmp rfl) .nil) ?_).1
          exact ⟨by simp [one, show ¬ x = y from fun h => hc4 (by rw [h])], (hs2.pre)⟩
        · try simp at hc4
          refine CWp.skip ?_
          refine k11 _ _ ?_
          refine CWp.seqK fun Kk14 k14 => ?_
          refine CWp.seqK fun Kk15 k15 => ?_
          refine CWp.regionW [2, 3, 29] ?_
          refine VC.s rfl (RVs.fieldAddr rfl FieldOf.h (by decide) rfl (fun _ => rfl) ?_)
          refine VC.s rfl (RVs.load rfl TyOf.h rfl (fun _ => ⟨rfl, (Sep.at_ (i := 1) hs2 rfl), rw_live, rfl⟩) ?_)
          refine VC.s rfl (RVs.fieldAddr rfl FieldOf.h (by decide) rfl (fun _ => rfl) ?_)
          refine VC.s rfl (RVs.load rfl TyOf.h rfl (fun _ => ⟨rfl, (Sep.at_ (i := 0) hs2 rfl), rw_live, rfl⟩) ?_)
          refine VC.s rfl (RVs.bin rfl rfl rfl rfl (fun _ => ⟨⟨rfl, rfl⟩, rfl⟩) ?_)
          refine VC.nil (k15 ⟨41, [(2, _), (3, _), (29, _)]⟩ _ ?_)
          refine CWp.condV rfl (fun hc5 => ?_) (fun hc5 => ?_)
          · try simp at hc5
            refine CWp.seqK fun Kk16 k16 => ?_
            refine CWp.regionW [4] ?_
            refine VC.s rfl (RVs.assign rfl rfl (fun _ => rfl) ?_)
            refine VC.nil (k16 ⟨41, [(4, _)]⟩ _ ?_)
            refine CWp.ret (q _ _ _ (.cons (.tmp rfl) .nil) ?_).1
            exact ⟨by simp [one, show ¬ x = y from fun h => hc5 (by rw [h])], (hs2.pre)⟩
          · try simp at hc5
            refine CWp.skip ?_
            refine k14 _ _ ?_
            refine CWp.seqK fun Kk17 k17 => ?_
            refine CWp.seqK fun Kk18 k18 => ?_
            refine CWp.regionW [2, 3, 35] ?_
            refine VC.s rfl (RVs.fieldAddr rfl FieldOf.h (by decide) rfl (fun _ => rfl) ?_)
            refine VC.s rfl (RVs.load rfl TyOf.h rfl (fun _ => ⟨rfl, (Sep.at_ (i := 1) hs2 rfl), rw_live, rfl⟩) ?_)
            refine VC.s rfl (RVs.fieldAddr rfl FieldOf.h (by decide) rfl (fun _ => rfl) ?_)
            refine VC.s rfl (RVs.load rfl TyOf.h rfl (fun _ => ⟨rfl, (Sep.at_ (i := 0) hs2 rfl), rw_live, rfl⟩) ?_)
            refine VC.s rfl (RVs.callp rfl rfl rfl (fun _ => ⟨⟨rfl, rfl⟩, eqRangeS _ _ _ _ _ (hS_x_set.mono (hle (hs2.pre))) (hS_y_set.mono (hle (hs2.pre)))⟩) ?_)
            refine VC.s rfl (RVs.not rfl rfl (fun _ => rfl) ?_)
            refine VC.nil (k18 ⟨41, [(2, _), (3, _), (35, _)]⟩ _ ?_)
            refine CWp.condV rfl (fun hc6 => ?_) (fun hc6 => ?_)
            · try simp at hc6
              refine CWp.seqK fun Kk19 k19 => ?_
              refine CWp.regionW [4] ?_
              refine VC.s rfl (RVs.assign rfl rfl (fun _ => rfl) ?_)
              refine VC.nil (k19 ⟨41, [(4, _)]⟩ _ ?_)
              refine CWp.ret (q _ _ _ (.cons (.tmp rfl) .nil) ?_).1
              exact ⟨by simp [one, show ¬ x = y from fun h => hc6 (by rw [h])], (hs2.pre)⟩
            · try simp at hc6
              refine CWp.skip ?_
              refine k17 _ _ ?_
              refine CWp.seqK fun Kk20 k20 => ?_
              refine CWp.seqK fun Kk21 k21 => ?_
              refine CWp.regionW [40] ?_
              refine VC.s rfl (RVs.fieldAddr rfl FieldOf.h (by decide) rfl (fun _ => rfl) ?_)
              refine VC.s rfl (RVs.load rfl TyOf.h rfl (fun _ => ⟨rfl, (Sep.at_ (i := 1) hs2 rfl), rw_live, rfl⟩) ?_)
              refine VC.s rfl (RVs.fieldAddr rfl FieldOf.h (by decide) rfl (fun _ => rfl) ?_)
              refine VC.s rfl (RVs.load rfl TyOf.h rfl (fun _ => ⟨rfl, (Sep.at_ (i := 0) hs2 rfl), rw_live, rfl⟩) ?_)
              refine VC.s rfl (RVs.ne_bool rfl rfl UnBool.h rfl (fun _ => ⟨rfl, rfl⟩) ?_)
              refine VC.nil (k21 ⟨41, [(40, _)]⟩ _ ?_)
              refine CWp.condV rfl (fun hc7 => ?_) (fun hc7 => ?_)
              · try simp at hc7
                refine CWp.seqK fun Kk22 k22 => ?_
                refine CWp.regionW [4] ?_
                refine VC.s rfl (RVs.assign rfl rfl (fun _ => rfl) ?_)
                refine VC.nil (k22 ⟨41, [(4, _)]⟩ _ ?_)
                refine CWp.ret (q _ _ _ (.cons (.tmp rfl) .nil) ?_).1
                exact ⟨by simp [one, show ¬ x = y from fun h => hc7 (by rw [h])], (hs2.pre)⟩
              · try simp at hc7
                refine CWp.skip ?_
                refine k20 _ _ ?_
                refine CWp.seqK fun Kk23 k23 => ?_
                refine CWp.regionW [4] ?_
                refine VC.s rfl (RVs.assign rfl rfl (fun _ => rfl) ?_)
                refine VC.nil (k23 ⟨41, [(4, _)]⟩ _ ?_)
                refine CWp.ret (q _ _ _ (.cons (.tmp rfl) .nil) ?_).1
                exact ⟨by cases x; cases y; simp_all [one], (hs2.pre)⟩

theorem eqLineS (va vb : Value) (xs ys : List Line) (H : AH) (ha : kLine0.S H va xs) (hb : kLine0.S H vb ys) : FWp Try.prog 13 [va, vb] H (fun v' H' => v' = .bool (decide (xs = ys)) ∧ H' = H) := by
  refine FWp.pure rfl fun H ph => ?_
  replace ha := ha.mono (hle ph)
  replace hb := hb.mono (hle ph)
  have hal := ha.lim
  unfold lim at hal
  obtain ⟨aa, ca, rfl, hac⟩ := ha.form
  have hbl := hb.lim
  unfold lim at hbl
  obtain ⟨ab, cb, rfl, hbc⟩ := hb.form
  refine FWp.enterK Try.func13 rfl (by decide +kernel) rfl rfl fun Q q => ?_
  have hs0 := Sep.nil (H := H)
  refine CWp.seqK fun Kk1 k1 => ?_
  refine CWp.regionW [0, 1] ?_
  refine VC.s rfl (RVs.assign rfl rfl (fun _ => rfl) ?_)
  refine VC.nil (k1 ⟨27, [(0, _), (1, _)]⟩ _ ?_)
  refine CWp.seqK fun Kk2 k2 => ?_
  refine CWp.seqK fun Kk3 k3 => ?_
  refine CWp.regionW [0, 1, 10] ?_
  refine VC.s rfl (RVs.move rfl rfl (fun _ => rfl) ?_)
  refine VC.s rfl (RVs.len_slice rfl UnSl.h rfl (fun _ => rfl) ?_)
  refine VC.s rfl (RVs.move rfl rfl (fun _ => rfl) ?_)
  refine VC.s rfl (RVs.len_slice rfl UnSl.h rfl (fun _ => rfl) ?_)
  refine VC.s rfl (RVs.bin rfl rfl rfl rfl (fun _ => ⟨⟨rfl, rfl⟩, rfl⟩) ?_)
  refine VC.nil (k3 ⟨27, [(0, _), (1, _), (10, _)]⟩ _ ?_)
  refine CWp.condV rfl (fun hc1 => ?_) (fun hc1 => ?_)
  · try simp at hc1
    refine CWp.seqK fun Kk4 k4 => ?_
    refine CWp.regionW [4] ?_
    refine VC.s rfl (RVs.assign rfl rfl (fun _ => rfl) ?_)
    refine VC.nil (k4 ⟨27, [(4, _)]⟩ _ ?_)
    refine CWp.ret (q _ _ _ (.cons (.tmp rfl) .nil) ?_).1
    exact ⟨by simp [one, show ¬ xs = ys from fun h => hc1 (by rw [h])], (hs0.pre)⟩
  · try simp at hc1
    refine CWp.skip ?_
    refine k2 _ _ ?_
    refine CWp.seqK fun Kk5 k5 => ?_
    refine CWp.seqK fun Kk6 k6 => ?_
    refine CWp.regionW [0, 1, 5] ?_
    refine VC.s rfl (RVs.assign rfl rfl (fun _ => rfl) ?_)
    refine VC.nil (k6 ⟨27, [(0, _), (1, _), (5, _)]⟩ _ ?_)
    refine CWp.block ?_
    refine CWp.loopK (fun n T H' => ∃ i : Nat, T = ⟨27, [(0, .slice aa xs.length ca), (1, .slice ab ys.length cb), (5, .int .i64 (i : Int))]⟩ ∧ n = xs.length - i ∧ (i ≤ xs.length) ∧ (xs.take i = ys.take i) ∧ H <+: H') (n := xs.length) ⟨0, rfl, by first | rfl | simp, by omega, by simp, List.prefix_refl _⟩ ?_
    rintro n T Hl1 Kk7 k7 ⟨i, rfl, hn1, hi, heq, hs1⟩
    have hs2 := Sep.grow hs0 hs1
    have hs3 := Sep.nil (H := Hl1)
    refine CWp.seqK fun Kk8 k8 => ?_
    refine CWp.seqK fun Kk9 k9 => ?_
    refine CWp.regionW [0, 1, 5, 14] ?_
    refine VC.s rfl (RVs.move rfl rfl (fun _ => rfl) ?_)
    refine VC.s rfl (RVs.move rfl rfl (fun _ => rfl) ?_)
    refine VC.s rfl (RVs.len_slice rfl UnSl.h rfl (fun _ => rfl) ?_)
    refine VC.s rfl (RVs.bin rfl rfl rfl rfl (fun _ => ⟨⟨rfl, rfl⟩, rfl⟩) ?_)
    refine VC.nil (k9 ⟨27, [(0, _), (1, _), (5, _), (14, _)]⟩ _ ?_)
    refine CWp.condV rfl (fun hc2 => ?_) (fun hc2 => ?_)
    · try simp at hc2
      refine CWp.skip ?_
      refine k8 _ _ ?_
      refine CWp.seqK fun Kk10 k10 => ?_
      refine CWp.block ?_
      refine CWp.seqK fun Kk11 k11 => ?_
      refine CWp.regionDW [0, 1, 5, 26] [false, false, false, false, false, false, false, false, false, false] (by decide +kernel) ?_
      refine VC.s rfl (RVs.move rfl rfl (fun _ => rfl) ?_)
      refine VC.s rfl (RVs.move rfl rfl (fun _ => rfl) ?_)
      refine VC.s rfl (RVs.indexS rfl (ha.mono (hle (List.IsPrefix.trans hs2.pre (hs3.pre)))) rfl ElemOf.h rfl (fun _ => ⟨⟨rfl, rfl⟩, by omega, by omega⟩) ?_)
      intro id1 j1 u1 B1 e1
      obtain ⟨y1, hy1, e1⟩ := e1 rfl
      try simp only [Int.toNat_natCast] at hy1
      obtain ⟨rfl, hwy1⟩ := e1.r
      refine VC.s rfl (RVs.loadE (k := kLine0) rfl TyOf.h rfl (fun _ => ⟨rfl, e1⟩) ?_)
      refine VC.s rfl (RVs.move rfl rfl (fun _ => rfl) ?_)
      refine VC.s rfl (RVs.move rfl rfl (fun _ => rfl) ?_)
      refine VC.s rfl (RVs.indexS rfl (hb.mono (hle (List.IsPrefix.trans hs2.pre (hs3.pre)))) rfl ElemOf.h rfl (fun _ => ⟨⟨rfl, rfl⟩, by omega, by omega⟩) ?_)
      intro id2 j2 u2 B2 e2
      obtain ⟨y2, hy2, e2⟩ := e2 rfl
      try simp only [Int.toNat_natCast] at hy2
      obtain ⟨rfl, hwy2⟩ := e2.r
      refine VC.s rfl (RVs.loadE (k := kLine0) rfl TyOf.h rfl (fun _ => ⟨rfl, e2⟩) ?_)
      refine VC.s rfl (RVs.callp rfl rfl rfl (fun _ => ⟨⟨rfl, rfl⟩, eqLine _ _ _ _ _ (.inl ⟨rfl, hwy1⟩) (.inl ⟨rfl, hwy2⟩)⟩) ?_)
      refine VC.s rfl (RVs.not rfl rfl (fun _ => rfl) ?_)
      refine VC.nil (k11 ⟨27, [(0, _), (1, _), (5, _), (26, _)]⟩ _ ?_)
      refine CWp.condV rfl (fun hc3 => ?_) (fun hc3 => ?_)
      · try simp at hc3
        refine CWp.seqK fun Kk12 k12 => ?_
        refine CWp.regionW [4] ?_
        refine VC.s rfl (RVs.assign rfl rfl (fun _ => rfl) ?_)
        refine VC.nil (k12 ⟨27, [(4, _)]⟩ _ ?_)
        refine CWp.ret (q _ _ _ (.cons (.tmp rfl) .nil) ?_).1
        exact ⟨by simp [one, ne_at hy1 hy2 hc3], (List.IsPrefix.trans hs2.pre (hs3.pre))⟩
      · try simp at hc3
        refine CWp.skip ?_
        refine k10 _ _ ?_
        refine CWp.regionW [0, 1, 5] ?_
        refine VC.s rfl (RVs.move rfl rfl (fun _ => rfl) ?_)
        refine VC.s rfl (RVs.arith (r := ((i + 1 : Nat) : Int)) rfl rfl rfl (by (try simp only [bl_bs]); first | exact wrap_in (by omega) | (rw [wrap_in (by omega)]; omega)) rfl (fun _ => ⟨⟨rfl, rfl⟩, rfl⟩) ?_)
        refine VC.s rfl (RVs.assign rfl rfl (fun _ => rfl) ?_)
        refine VC.nil (k7 _ ⟨27, [(0, _), (1, _), (5, _)]⟩ _ ?_ ⟨i + 1, rfl, rfl, by omega, take_succ heq hy1 hy2 hc3, List.IsPrefix.trans hs1 hs3.pre⟩)
        omega
    · try simp at hc2
      refine CWp.exit ?_
      refine k5 _ _ ?_
      refine CWp.seqK fun Kk13 k13 => ?_
      refine CWp.regionW [4] ?_
      refine VC.s rfl (RVs.assign rfl rfl (fun _ => rfl) ?_)
      refine VC.nil (k13 ⟨27, [(4, _)]⟩ _ ?_)
      refine CWp.ret (q _ _ _ (.cons (.tmp rfl) .nil) ?_).1
      exact ⟨by simp [one, take_all heq (by omega) (by omega)], (List.IsPrefix.trans hs2.pre (hs3.pre))⟩

theorem markIntS (va : Value) (xs : List Int) (k : Int) (F : List Nat) (H : AH) (hW : kInt.slice.W H [va] xs F) (nd : F.Nodup) (h0 : 0 ≤ k) (h1 : k + 1 * xs.length ≤ 4611686018427387904) : FWp Try.prog 69 [va, .int .i64 k] H (fun v' H' => v' = .int .i64 (k + 1 * xs.length) ∧ Chg H H' F ∧ ∃ F', (pVal kInt.slice [va] (marks (fun (i : Nat) => k + (i : Int)) xs.length)).A H' F' ∧ F'.Nodup ∧ ∀ j ∈ F', j ∈ F ∨ H.length ≤ j) := by
  have hl := (slW hW).S.lim
  unfold lim at hl
  obtain ⟨aa, ca, rfl, hca⟩ := (slW hW).S.form
  refine FWp.enterK Try.func69 rfl (by decide +kernel) rfl rfl fun Q q => ?_
  have hs0 := Sep.start (p := pVal kInt.slice [.slice aa xs.length ca] xs) hW nd
  refine CWp.seqK fun Kk1 k1 => ?_
  refine CWp.regionW [0, 1] ?_
  refine VC.s rfl (RVs.assign rfl rfl (fun _ => rfl) ?_)
  refine VC.nil (k1 ⟨19, [(0, _), (1, _)]⟩ _ ?_)
  refine CWp.seqK fun Kk2 k2 => ?_
  refine CWp.seqK fun Kk3 k3 => ?_
  refine CWp.regionW [0, 1, 5] ?_
  refine VC.s rfl (RVs.assign rfl rfl (fun _ => rfl) ?_)
  refine VC.nil (k3 ⟨19, [(0, _), (1, _), (5, _)]⟩ _ ?_)
  refine CWp.block ?_
  refine CWp.loopK (fun n T H' => ∃ i : Nat, T = ⟨19, [(0, .slice aa xs.length ca), (1, .int .i64 (k + (i : Int))), (5, .int .i64 (i : Int))]⟩ ∧ n = xs.length - i ∧ (i ≤ xs.length) ∧ Sep F H H' [pVal kInt.slice [.slice aa xs.length ca] (marks (fun (i : Nat) => k + (i : Int)) i ++ xs.drop i)]) (n := xs.length) ⟨0, by simp, by first | rfl | simp, by omega, by simpa [marks] using hs0⟩ ?_
  rintro n T Hl1 Kk4 k4 ⟨i, rfl, hn1, hi, hs1⟩
  refine CWp.seqK fun Kk5 k5 => ?_
  refine CWp.seqK fun Kk6 k6 => ?_
  refine CWp.regionW [0, 1, 5, 9] ?_
  refine VC.s rfl (RVs.move rfl rfl (fun _ => rfl) ?_)
  refine VC.s rfl (RVs.move rfl rfl (fun _ => rfl) ?_)
  refine VC.s rfl (RVs.len_slice rfl UnSl.h rfl (fun _ => rfl) ?_)
  refine VC.s rfl (RVs.bin rfl rfl rfl rfl (fun _ => ⟨⟨rfl, rfl⟩, rfl⟩) ?_)
  refine VC.nil (k6 ⟨19, [(0, _), (1, _), (5, _), (9, _)]⟩ _ ?_)
  refine CWp.condV rfl (fun hc1 => ?_) (fun hc1 => ?_)
  · have hlt : i < xs.length := by first | exact_mod_cast of_decide_eq_true hc1 | (have h9 := of_decide_eq_true hc1; omega)
    obtain ⟨y0, hy0⟩ : ∃ y0, xs[i]? = some y0 := ⟨_, List.getElem?_eq_getElem hlt⟩
    refine CWp.skip ?_
    refine k5 _ _ ?_
    refine CWp.seqK fun Kk7 k7 => ?_
    refine CWp.block ?_
    refine CWp.seqK fun Kk8 k8 => ?_
    refine CWp.regionW [0, 1, 5] ?_
    refine VC.s rfl (RVs.move rfl rfl (fun _ => rfl) ?_)
    refine VC.s rfl (RVs.move rfl rfl (fun _ => rfl) ?_)
    refine VC.s rfl (RVs.move rfl rfl (fun _ => rfl) ?_)
    refine VC.s rfl (RVs.indexE (k := kInt) (i := i) rfl (Sep.VS (i := 0) hs1 rfl) rfl ElemOf.h rfl rfl ⟨rfl, rfl⟩ (by (try rw [List.length_set]); rw [marks_len2 (by omega)]; omega) ?_)
    intro id1 j1 ept1
    refine VC.s rfl (RVs.storeE (k := kInt) (f := 0) (x0 := y0) (y := (k + (i : Int))) (zs := (marks (fun (i : Nat) => k + (i : Int)) i ++ xs.drop i).set i (k + (i : Int))) int_Flat (q := 0) hs1 rfl ept1 rfl rfl TyOf.h rfl rfl rfl ⟨rfl, rfl⟩ (marks_mid.trans hy0) (by decide) (by intro u hu; obtain rfl := hu; rfl) rfl (rfl) ?_)
    intro H1 hs2
    refine VC.nil (k8 ⟨19, [(0, _), (1, _), (5, _)]⟩ _ ?_)
    refine CWp.regionW [0, 1, 5] ?_
    refine VC.s rfl (RVs.move rfl rfl (fun _ => rfl) ?_)
    refine VC.s rfl (RVs.arith (r := (k + (i : Int) + 1)) rfl rfl rfl (by (try simp only [bl_bs]); first | exact wrap_in (by omega) | (rw [wrap_in (by omega)]; omega)) rfl (fun _ => ⟨⟨rfl, rfl⟩, rfl⟩) ?_)
    refine VC.s rfl (RVs.assign rfl rfl (fun _ => rfl) ?_)
    refine VC.nil (k7 ⟨19, [(0, _), (1, _), (5, _)]⟩ _ ?_)
    refine CWp.regionW [0, 1, 5] ?_
    refine VC.s rfl (RVs.move rfl rfl (fun _ => rfl) ?_)
    refine VC.s rfl (RVs.arith (r := ((i + 1 : Nat) : Int)) rfl rfl rfl (by (try simp only [bl_bs]); first | exact wrap_in (by omega) | (rw [wrap_in (by omega)]; omega)) rfl (fun _ => ⟨⟨rfl, rfl⟩, rfl⟩) ?_)
    refine VC.s rfl (RVs.assign rfl rfl (fun _ => rfl) ?_)
    refine VC.nil (k4 _ ⟨19, [(0, _), (1, _), (5, _)]⟩ _ ?_ ⟨i + 1, by simp; omega, rfl, by omega, by have hz := hs2; rwa [marks_setG (f := (fun (i : Nat) => k + (i : Int))) (by omega) rfl] at hz⟩)
    omega
  · have hge : xs.length ≤ i := by have h9 := of_decide_eq_false hc1; omega
    refine CWp.exit ?_
    refine k2 _ _ ?_
    refine CWp.seqK fun Kk9 k9 => ?_
    refine CWp.regionW [4] ?_
    refine VC.s rfl (RVs.move rfl rfl (fun _ => rfl) ?_)
    refine VC.s rfl (RVs.assign rfl rfl (fun _ => rfl) ?_)
    refine VC.nil (k9 ⟨19, [(4, _)]⟩ _ ?_)
    refine CWp.ret (q _ _ _ (.cons (.tmp rfl) .nil) ?_).1
    have hz := hs1
    rw [marks_all hge (by omega)] at hz
    exact ⟨by simp only [one]; congr 1; omega, Sep.done (i := 0) hz rfl⟩

theorem markMailS (va : Value) (xs : List Mail) (k : Int) (F : List Nat) (H : AH) (hW : kMail.slice.W H [va] xs F) (nd : F.Nodup) (h0 : 0 ≤ k) (h1 : k + 4 * xs.length ≤ 4611686018427387904) : FWp Try.prog 70 [va, .int .i64 k] H (fun v' H' => v' = .int .i64 (k + 4 * xs.length) ∧ Chg H H' F ∧ ∃ F', (pVal kMail.slice [va] (marks (fun (i : Nat) => (⟨k + 4 * (i : Int), (k + 4 * (i : Int) + 1), (k + 4 * (i : Int) + 2), (markT (k + 4 * (i : Int) + 3))⟩ : Mail)) xs.length)).A H' F' ∧ F'.Nodup ∧ ∀ j ∈ F', j ∈ F ∨ H.length ≤ j) := by
  have hl := (slW hW).S.lim
  unfold lim at hl
  obtain ⟨aa, ca, rfl, hca⟩ := (slW hW).S.form
  refine FWp.enterK Try.func70 rfl (by decide +kernel) rfl rfl fun Q q => ?_
  have hs0 := Sep.start (p := pVal kMail.slice [.slice aa xs.length ca] xs) hW nd
  refine CWp.seqK fun Kk1 k1 => ?_
  refine CWp.regionW [0, 1] ?_
  refine VC.s rfl (RVs.assign rfl rfl (fun _ => rfl) ?_)
  refine VC.nil (k1 ⟨42, [(0, _), (1, _)]⟩ _ ?_)
  refine CWp.seqK fun Kk2 k2 => ?_
  refine CWp.seqK fun Kk3 k3 => ?_
  refine CWp.regionW [0, 1, 5] ?_
  refine VC.s rfl (RVs.assign rfl rfl (fun _ => rfl) ?_)
  refine VC.nil (k3 ⟨42, [(0, _), (1, _), (5, _)]⟩ _ ?_)
  refine CWp.block ?_
  refine CWp.loopK (fun n T H' => ∃ i : Nat, T = ⟨42, [(0, .slice aa xs.length ca), (1, .int .i64 (k + 4 * (i : Int))), (5, .int .i64 (i : Int))]⟩ ∧ n = xs.length - i ∧ (i ≤ xs.length) ∧ Sep F H H' [pVal kMail.slice [.slice aa xs.length ca] (marks (fun (i : Nat) => (⟨k + 4 * (i : Int), (k + 4 * (i : Int) + 1), (k + 4 * (i : Int) + 2), (markT (k + 4 * (i : Int) + 3))⟩ : Mail)) i ++ xs.drop i)]) (n := xs.length) ⟨0, by simp, by first | rfl | simp, by omega, by simpa [marks] using hs0⟩ ?_
  rintro n T Hl1 Kk4 k4 ⟨i, rfl, hn1, hi, hs1⟩
  refine CWp.seqK fun Kk5 k5 => ?_
  refine CWp.seqK fun Kk6 k6 => ?_
  refine CWp.regionW [0, 1, 5, 9] ?_
  refine VC.s rfl (RVs.move rfl rfl (fun _ => rfl) ?_)
  refine VC.s rfl (RVs.move rfl rfl (fun _ => rfl) ?_)
  refine VC.s rfl (RVs.len_slice rfl UnSl.h rfl (fun _ => rfl) ?_)
  refine VC.s rfl (RVs.bin rfl rfl rfl rfl (fun _ => ⟨⟨rfl, rfl⟩, rfl⟩) ?_)
  refine VC.nil (k6 ⟨42, [(0, _), (1, _), (5, _), (9, _)]⟩ _ ?_)
  refine CWp.condV rfl (fun hc1 => ?_) (fun hc1 => ?_)
  · have hlt : i < xs.length := by first | exact_mod_cast of_decide_eq_true hc1 | (have h9 := of_decide_eq_true hc1; omega)
    obtain ⟨y0, hy0⟩ : ∃ y0, xs[i]? = some y0 := ⟨_, List.getElem?_eq_getElem hlt⟩
    refine CWp.skip ?_
    refine k5 _ _ ?_
    refine CWp.seqK fun Kk7 k7 => ?_
    refine CWp.block ?_
    refine CWp.seqK fun Kk8 k8 => ?_
    refine CWp.regionW [0, 1, 5] ?_
    refine VC.s rfl (RVs.move rfl rfl (fun _ => rfl) ?_)
    refine VC.s rfl (RVs.move rfl rfl (fun _ => rfl) ?_)
    refine VC.s rfl (RVs.move rfl rfl (fun _ => rfl) ?_)
    refine VC.s rfl (RVs.indexE (k := kMail) (i := i) rfl (Sep.VS (i := 0) hs1 rfl) rfl ElemOf.h rfl rfl ⟨rfl, rfl⟩ (by (try rw [List.length_set]); rw [marks_len2 (by omega)]; omega) ?_)
    intro id1 j1 ept1
    refine VC.s rfl (RVs.fieldAddr rfl FieldOf.h (by decide) rfl (fun _ => rfl) ?_)
    refine VC.s rfl (RVs.storeE (k := kMail) (f := 0) (x0 := y0) (y := (⟨k + 4 * (i : Int), y0.flags, y0.mod, y0.text⟩ : Mail)) (zs := (marks (fun (i : Nat) => (⟨k + 4 * (i : Int), (k + 4 * (i : Int) + 1), (k + 4 * (i : Int) + 2), (markT (k + 4 * (i : Int) + 3))⟩ : Mail)) i ++ xs.drop i).set i (⟨k + 4 * (i : Int), y0.flags, y0.mod, y0.text⟩ : Mail)) Kd.flat_Flat (q := 0) hs1 rfl ept1 rfl rfl TyOf.h rfl rfl rfl ⟨rfl, rfl⟩ (marks_mid.trans hy0) (by decide) (by rintro u ⟨rfl, hw⟩; exact ⟨rfl, hw⟩) rfl (rfl) ?_)
    intro H1 hs2
    refine VC.nil (k8 ⟨42, [(0, _), (1, _), (5, _)]⟩ _ ?_)
    refine CWp.seqK fun Kk9 k9 => ?_
    refine CWp.regionW [0, 1, 5] ?_
    refine VC.s rfl (RVs.move rfl rfl (fun _ => rfl) ?_)
    refine VC.s rfl (RVs.arith (r := (k + 4 * (i : Int) + 1)) rfl rfl rfl (by (try simp only [bl_bs]); first | exact wrap_in (by omega) | (rw [wrap_in (by omega)]; omega)) rfl (fun _ => ⟨⟨rfl, rfl⟩, rfl⟩) ?_)
    refine VC.s rfl (RVs.assign rfl rfl (fun _ => rfl) ?_)
    refine VC.nil (k9 ⟨42, [(0, _), (1, _), (5, _)]⟩ _ ?_)
    refine CWp.seqK fun Kk10 k10 => ?_
    refine CWp.regionW [0, 1, 5] ?_
    refine VC.s rfl (RVs.move rfl rfl (fun _ => rfl) ?_)
    refine VC.s rfl (RVs.move rfl rfl (fun _ => rfl) ?_)
    refine VC.s rfl (RVs.move rfl rfl (fun _ => rfl) ?_)
    refine VC.s rfl (RVs.indexE (k := kMail) (i := i) rfl (Sep.VS (i := 0) hs2 rfl) rfl ElemOf.h rfl rfl ⟨rfl, rfl⟩ (by (try rw [List.length_set]); rw [marks_len2 (by omega)]; omega) ?_)
    intro id2 j2 ept2
    refine VC.s rfl (RVs.fieldAddr rfl FieldOf.h (by decide) rfl (fun _ => rfl) ?_)
    refine VC.s rfl (RVs.storeE (k := kMail) (f := 1) (x0 := (⟨k + 4 * (i : Int), y0.flags, y0.mod, y0.text⟩ : Mail)) (y := (⟨k + 4 * (i : Int), (k + 4 * (i : Int) + 1), y0.mod, y0.text⟩ : Mail)) (zs := (marks (fun (i : Nat) => (⟨k + 4 * (i : Int), (k + 4 * (i : Int) + 1), (k + 4 * (i : Int) + 2), (markT (k + 4 * (i : Int) + 3))⟩ : Mail)) i ++ xs.drop i).set i (⟨k + 4 * (i : Int), (k + 4 * (i : Int) + 1), y0.mod, y0.text⟩ : Mail)) Kd.flat_Flat (q := 0) hs2 rfl ept2 rfl rfl TyOf.h rfl rfl rfl ⟨rfl, rfl⟩ (List.getElem?_set_self (by rw [marks_len2 (by omega)]; omega)) (by decide) (by rintro u ⟨rfl, hw⟩; exact ⟨rfl, hw⟩) rfl (List.set_set ..) ?_)
    intro H2 hs3
    refine VC.nil (k10 ⟨42, [(0, _), (1, _), (5, _)]⟩ _ ?_)
    refine CWp.seqK fun Kk11 k11 => ?_
    refine CWp.regionW [0, 1, 5] ?_
    refine VC.s rfl (RVs.move rfl rfl (fun _ => rfl) ?_)
    refine VC.s rfl (RVs.arith (r := (k + 4 * (i : Int) + 2)) rfl rfl rfl (by (try simp only [bl_bs]); first | exact wrap_in (by omega) | (rw [wrap_in (by omega)]; omega)) rfl (fun _ => ⟨⟨rfl, rfl⟩, rfl⟩) ?_)
    refine VC.s rfl (RVs.assign rfl rfl (fun _ => rfl) ?_)
    refine VC.nil (k11 ⟨42, [(0, _), (1, _), (5, _)]⟩ _ ?_)
    refine CWp.seqK fun Kk12 k12 => ?_
    refine CWp.regionW [0, 1, 5] ?_
    refine VC.s rfl (RVs.move rfl rfl (fun _ => rfl) ?_)
    refine VC.s rfl (RVs.move rfl rfl (fun _ => rfl) ?_)
    refine VC.s rfl (RVs.move rfl rfl (fun _ => rfl) ?_)
    refine VC.s rfl (RVs.indexE (k := kMail) (i := i) rfl (Sep.VS (i := 0) hs3 rfl) rfl ElemOf.h rfl rfl ⟨rfl, rfl⟩ (by (try rw [List.length_set]); rw [marks_len2 (by omega)]; omega) ?_)
    intro id3 j3 ept3
    refine VC.s rfl (RVs.fieldAddr rfl FieldOf.h (by decide) rfl (fun _ => rfl) ?_)
    refine VC.s rfl (RVs.storeE (k := kMail) (f := 2) (x0 := (⟨k + 4 * (i : Int), (k + 4 * (i : Int) + 1), y0.mod, y0.text⟩ : Mail)) (y := (⟨k + 4 * (i : Int), (k + 4 * (i : Int) + 1), (k + 4 * (i : Int) + 2), y0.text⟩ : Mail)) (zs := (marks (fun (i : Nat) => (⟨k + 4 * (i : Int), (k + 4 * (i : Int) + 1), (k + 4 * (i : Int) + 2), (markT (k + 4 * (i : Int) + 3))⟩ : Mail)) i ++ xs.drop i).set i (⟨k + 4 * (i : Int), (k + 4 * (i : Int) + 1), (k + 4 * (i : Int) + 2), y0.text⟩ : Mail)) Kd.flat_Flat (q := 0) hs3 rfl ept3 rfl rfl TyOf.h rfl rfl rfl ⟨rfl, rfl⟩ (List.getElem?_set_self (by rw [marks_len2 (by omega)]; omega)) (by decide) (by rintro u ⟨rfl, hw⟩; exact ⟨rfl, hw⟩) rfl (List.set_set ..) ?_)
    intro H3 hs4
    refine VC.nil (k12 ⟨42, [(0, _), (1, _), (5, _)]⟩ _ ?_)
    refine CWp.seqK fun Kk13 k13 => ?_
    refine CWp.regionW [0, 1, 5] ?_
    refine VC.s rfl (RVs.move rfl rfl (fun _ => rfl) ?_)
    refine VC.s rfl (RVs.arith (r := (k + 4 * (i : Int) + 3)) rfl rfl rfl (by (try simp only [bl_bs]); first | exact wrap_in (by omega) | (rw [wrap_in (by omega)]; omega)) rfl (fun _ => ⟨⟨rfl, rfl⟩, rfl⟩) ?_)
    refine VC.s rfl (RVs.assign rfl rfl (fun _ => rfl) ?_)
    refine VC.nil (k13 ⟨42, [(0, _), (1, _), (5, _)]⟩ _ ?_)
    refine CWp.seqK fun Kk14 k14 => ?_
    refine CWp.regionW [0, 1, 5] ?_
    refine VC.s rfl (RVs.move rfl rfl (fun _ => rfl) ?_)
    refine VC.s rfl (RVs.move rfl rfl (fun _ => rfl) ?_)
    refine VC.s rfl (RVs.move rfl rfl (fun _ => rfl) ?_)
    refine VC.s rfl (RVs.callp rfl rfl rfl (fun _ => ⟨⟨rfl, rfl⟩, markText _ _ (by unfold lim; omega)⟩) ?_)
    refine VC.s rfl (RVs.indexE (k := kMail) (i := i) rfl (Sep.VS (i := 0) hs4 rfl) rfl ElemOf.h rfl rfl ⟨rfl, rfl⟩ (by (try rw [List.length_set]); rw [marks_len2 (by omega)]; omega) ?_)
    intro id4 j4 ept4
    refine VC.s rfl (RVs.fieldAddr rfl FieldOf.h (by decide) rfl (fun _ => rfl) ?_)
    refine VC.s rfl (RVs.storeE (k := kMail) (f := 3) (x0 := (⟨k + 4 * (i : Int), (k + 4 * (i : Int) + 1), (k + 4 * (i : Int) + 2), y0.text⟩ : Mail)) (y := (⟨k + 4 * (i : Int), (k + 4 * (i : Int) + 1), (k + 4 * (i : Int) + 2), (markT (k + 4 * (i : Int) + 3))⟩ : Mail)) (zs := (marks (fun (i : Nat) => (⟨k + 4 * (i : Int), (k + 4 * (i : Int) + 1), (k + 4 * (i : Int) + 2), (markT (k + 4 * (i : Int) + 3))⟩ : Mail)) i ++ xs.drop i).set i (⟨k + 4 * (i : Int), (k + 4 * (i : Int) + 1), (k + 4 * (i : Int) + 2), (markT (k + 4 * (i : Int) + 3))⟩ : Mail)) Kd.flat_Flat (q := 0) hs4 rfl ept4 rfl rfl TyOf.h rfl rfl rfl ⟨rfl, rfl⟩ (List.getElem?_set_self (by rw [marks_len2 (by omega)]; omega)) (by decide) (by rintro u ⟨rfl, hw⟩; exact ⟨rfl, Nat.le_trans (markT_len _ (by unfold lim; omega)) (by decide)⟩) rfl (List.set_set ..) ?_)
    intro H4 hs5
    refine VC.nil (k14 ⟨42, [(0, _), (1, _), (5, _)]⟩ _ ?_)
    refine CWp.regionW [0, 1, 5] ?_
    refine VC.s rfl (RVs.move rfl rfl (fun _ => rfl) ?_)
    refine VC.s rfl (RVs.arith (r := (k + 4 * (i : Int) + 4)) rfl rfl rfl (by (try simp only [bl_bs]); first | exact wrap_in (by omega) | (rw [wrap_in (by omega)]; omega)) rfl (fun _ => ⟨⟨rfl, rfl⟩, rfl⟩) ?_)
    refine VC.s rfl (RVs.assign rfl rfl (fun _ => rfl) ?_)
    refine VC.nil (k7 ⟨42, [(0, _), (1, _), (5, _)]⟩ _ ?_)
    refine CWp.regionW [0, 1, 5] ?_
    refine VC.s rfl (RVs.move rfl rfl (fun _ => rfl) ?_)
    refine VC.s rfl (RVs.arith (r := ((i + 1 : Nat) : Int)) rfl rfl rfl (by (try simp only [bl_bs]); first | exact wrap_in (by omega) | (rw [wrap_in (by omega)]; omega)) rfl (fun _ => ⟨⟨rfl, rfl⟩, rfl⟩) ?_)
    refine VC.s rfl (RVs.assign rfl rfl (fun _ => rfl) ?_)
    refine VC.nil (k4 _ ⟨42, [(0, _), (1, _), (5, _)]⟩ _ ?_ ⟨i + 1, by simp; omega, rfl, by omega, by have hz := hs5; rwa [marks_setG (f := (fun (i : Nat) => (⟨k + 4 * (i : Int), (k + 4 * (i : Int) + 1), (k + 4 * (i : Int) + 2), (markT (k + 4 * (i : Int) + 3))⟩ : Mail))) (by omega) rfl] at hz⟩)
    omega
  · have hge : xs.length ≤ i := by have h9 := of_decide_eq_false hc1; omega
    refine CWp.exit ?_
    refine k2 _ _ ?_
    refine CWp.seqK fun Kk15 k15 => ?_
    refine CWp.regionW [4] ?_
    refine VC.s rfl (RVs.move rfl rfl (fun _ => rfl) ?_)
    refine VC.s rfl (RVs.assign rfl rfl (fun _ => rfl) ?_)
    refine VC.nil (k15 ⟨42, [(4, _)]⟩ _ ?_)
    refine CWp.ret (q _ _ _ (.cons (.tmp rfl) .nil) ?_).1
    have hz := hs1
    rw [marks_all hge (by omega)] at hz
    exact ⟨by simp only [one]; congr 1; omega, Sep.done (i := 0) hz rfl⟩

theorem markTombS (va : Value) (xs : List Tomb) (k : Int) (F : List Nat) (H : AH) (hW : kTomb.slice.W H [va] xs F) (nd : F.Nodup) (h0 : 0 ≤ k) (h1 : k + 2 * xs.length ≤ 4611686018427387904) : FWp Try.prog 71 [va, .int .i64 k] H (fun v' H' => v' = .int .i64 (k + 2 * xs.length) ∧ Chg H H' F ∧ ∃ F', (pVal kTomb.slice [va] (marks (fun (i : Nat) => (⟨k + 2 * (i : Int), (k + 2 * (i : Int) + 1)⟩ : Tomb)) xs.length)).A H' F' ∧ F'.Nodup ∧ ∀ j ∈ F', j ∈ F ∨ H.length ≤ j) := by
  have hl := (slW hW).S.lim
  unfold lim at hl
  obtain ⟨aa, ca, rfl, hca⟩ := (slW hW).S.form
  refine FWp.enterK Try.func71 rfl (by decide +kernel) rfl rfl fun Q q => ?_
  have hs0 := Sep.start (p := pVal kTomb.slice [.slice aa xs.length ca] xs) hW nd
  refine CWp.seqK fun Kk1 k1 => ?_
  refine CWp.regionW [0, 1] ?_
  refine VC.s rfl (RVs.assign rfl rfl (fun _ => rfl) ?_)
  refine VC.nil (k1 ⟨27, [(0, _), (1, _)]⟩ _ ?_)
  refine CWp.seqK fun Kk2 k2 => ?_
  refine CWp.seqK fun Kk3 k3 => ?_
  refine CWp.regionW [0, 1, 5] ?_
  refine VC.s rfl (RVs.assign rfl rfl (fun _ => rfl) ?_)
  refine VC.nil (k3 ⟨27, [(0, _), (1, _), (5, _)]⟩ _ ?_)
  refine CWp.block ?_
  refine CWp.loopK (fun n T H' => ∃ i : Nat, T = ⟨27, [(0, .slice aa xs.length ca), (1, .int .i64 (k + 2 * (i : Int))), (5, .int .i64 (i : Int))]⟩ ∧ n = xs.length - i ∧ (i ≤ xs.length) ∧ Sep F H H' [pVal kTomb.slice [.slice aa xs.length ca] (marks (fun (i : Nat) => (⟨k + 2 * (i : Int), (k + 2 * (i : Int) + 1)⟩ : Tomb)) i ++ xs.drop i)]) (n := xs.length) ⟨0, by simp, by first | rfl | simp, by omega, by simpa [marks] using hs0⟩ ?_
  rintro n T Hl1 Kk4 k4 ⟨i, rfl, hn1, hi, hs1⟩
  refine CWp.seqK fun Kk5 k5 => ?_
  refine CWp.seqK fun Kk6 k6 => ?_
  refine CWp.regionW [0, 1, 5, 9] ?_
  refine VC.s rfl (RVs.move rfl rfl (fun _ => rfl) ?_)
  refine VC.s rfl (RVs.move rfl rfl (fun _ => rfl) ?_)
  refine VC.s rfl (RVs.len_slice rfl UnSl.h rfl (fun _ => rfl) ?_)
  refine VC.s rfl (RVs.bin rfl rfl rfl rfl (fun _ => ⟨⟨rfl, rfl⟩, rfl⟩) ?_)
  refine VC.nil (k6 ⟨27, [(0, _), (1, _), (5, _), (9, _)]⟩ _ ?_)
  refine CWp.condV rfl (fun hc1 => ?_) (fun hc1 => ?_)
  · have hlt : i < xs.length := by first | exact_mod_cast of_decide_eq_true hc1 | (have h9 := of_decide_eq_true hc1; omega)
    obtain ⟨y0, hy0⟩ : ∃ y0, xs[i]? = some y0 := ⟨_, List.getElem?_eq_getElem hlt⟩
    refine CWp.skip ?_
    refine k5 _ _ ?_
    refine CWp.seqK fun Kk7 k7 => ?_
    refine CWp.block ?_
    refine CWp.seqK fun Kk8 k8 => ?_
    refine CWp.regionW [0, 1, 5] ?_
    refine VC.s rfl (RVs.move rfl rfl (fun _ => rfl) ?_)
    refine VC.s rfl (RVs.move rfl rfl (fun _ => rfl) ?_)
    refine VC.s rfl (RVs.move rfl rfl (fun _ => rfl) ?_)
    refine VC.s rfl (RVs.indexE (k := kTomb) (i := i) rfl (Sep.VS (i := 0) hs1 rfl) rfl ElemOf.h rfl rfl ⟨rfl, rfl⟩ (by (try rw [List.length_set]); rw [marks_len2 (by omega)]; omega) ?_)
    intro id1 j1 ept1
    refine VC.s rfl (RVs.fieldAddr rfl FieldOf.h (by decide) rfl (fun _ => rfl) ?_)
    refine VC.s rfl (RVs.storeE (k := kTomb) (f := 0) (x0 := y0) (y := (⟨k + 2 * (i : Int), y0.mod⟩ : Tomb)) (zs := (marks (fun (i : Nat) => (⟨k + 2 * (i : Int), (k + 2 * (i : Int) + 1)⟩ : Tomb)) i ++ xs.drop i).set i (⟨k + 2 * (i : Int), y0.mod⟩ : Tomb)) Kd.flat_Flat (q := 0) hs1 rfl ept1 rfl rfl TyOf.h rfl rfl rfl ⟨rfl, rfl⟩ (marks_mid.trans hy0) (by decide) (by rintro u ⟨rfl, hw⟩; exact ⟨rfl, hw⟩) rfl (rfl) ?_)
    intro H1 hs2
    refine VC.nil (k8 ⟨27, [(0, _), (1, _), (5, _)]⟩ _ ?_)
    refine CWp.seqK fun Kk9 k9 => ?_
    refine CWp.regionW [0, 1, 5] ?_
    refine VC.s rfl (RVs.move rfl rfl (fun _ => rfl) ?_)
    refine VC.s rfl (RVs.arith (r := (k + 2 * (i : Int) + 1)) rfl rfl rfl (by (try simp only [bl_bs]); first | exact wrap_in (by omega) | (rw [wrap_in (by omega)]; omega)) rfl (fun _ => ⟨⟨rfl, rfl⟩, rfl⟩) ?_)
    refine VC.s rfl (RVs.assign rfl rfl (fun _ => rfl) ?_)
    refine VC.nil (k9 ⟨27, [(0, _), (1, _), (5, _)]⟩ _ ?_)
    refine CWp.seqK fun Kk10 k10 => ?_
    refine CWp.regionW [0, 1, 5] ?_
    refine VC.s rfl (RVs.move rfl rfl (fun _ => rfl) ?_)
    refine VC.s rfl (RVs.move rfl rfl (fun _ => rfl) ?_)
    refine VC.s rfl (RVs.move rfl rfl (fun _ => rfl) ?_)
    refine VC.s rfl (RVs.indexE (k := kTomb) (i := i) rfl (Sep.VS (i := 0) hs2 rfl) rfl ElemOf.h rfl rfl ⟨rfl, rfl⟩ (by (try rw [List.length_set]); rw [marks_len2 (by omega)]; omega) ?_)
    intro id2 j2 ept2
    refine VC.s rfl (RVs.fieldAddr rfl FieldOf.h (by decide) rfl (fun _ => rfl) ?_)
    refine VC.s rfl (RVs.storeE (k := kTomb) (f := 1) (x0 := (⟨k + 2 * (i : Int), y0.mod⟩ : Tomb)) (y := (⟨k + 2 * (i : Int), (k + 2 * (i : Int) + 1)⟩ : Tomb)) (zs := (marks (fun (i : Nat) => (⟨k + 2 * (i : Int), (k + 2 * (i : Int) + 1)⟩ : Tomb)) i ++ xs.drop i).set i (⟨k + 2 * (i : Int), (k + 2 * (i : Int) + 1)⟩ : Tomb)) Kd.flat_Flat (q := 0) hs2 rfl ept2 rfl rfl TyOf.h rfl rfl rfl ⟨rfl, rfl⟩ (List.getElem?_set_self (by rw [marks_len2 (by omega)]; omega)) (by decide) (by rintro u ⟨rfl, hw⟩; exact ⟨rfl, hw⟩) rfl (List.set_set ..) ?_)
    intro H2 hs3
    refine VC.nil (k10 ⟨27, [(0, _), (1, _), (5, _)]⟩ _ ?_)
    refine CWp.regionW [0, 1, 5] ?_
    refine VC.s rfl (RVs.move rfl rfl (fun _ => rfl) ?_)
    refine VC.s rfl (RVs.arith (r := (k + 2 * (i : Int) + 2)) rfl rfl rfl (by (try simp only [bl_bs]); first | exact wrap_in (by omega) | (rw [wrap_in (by omega)]; omega)) rfl (fun _ => ⟨⟨rfl, rfl⟩, rfl⟩) ?_)
    refine VC.s rfl (RVs.assign rfl rfl (fun _ => rfl) ?_)
    refine VC.nil (k7 ⟨27, [(0, _), (1, _), (5, _)]⟩ _ ?_)
    refine CWp.regionW [0, 1, 5] ?_
    refine VC.s rfl (RVs.move rfl rfl (fun _ => rfl) ?_)
    refine VC.s rfl (RVs.arith (r := ((i + 1 : Nat) : Int)) rfl rfl rfl (by (try simp only [bl_bs]); first | exact wrap_in (by omega) | (rw [wrap_in (by omega)]; omega)) rfl (fun _ => ⟨⟨rfl, rfl⟩, rfl⟩) ?_)
    refine VC.s rfl (RVs.assign rfl rfl (fun _ => rfl) ?_)
    refine VC.nil (k4 _ ⟨27, [(0, _), (1, _), (5, _)]⟩ _ ?_ ⟨i + 1, by simp; omega, rfl, by omega, by have hz := hs3; rwa [marks_setG (f := (fun (i : Nat) => (⟨k + 2 * (i : Int), (k + 2 * (i : Int) + 1)⟩ : Tomb))) (by omega) rfl] at hz⟩)
    omega
  · have hge : xs.length ≤ i := by have h9 := of_decide_eq_false hc1; omega
    refine CWp.exit ?_
    refine k2 _ _ ?_
    refine CWp.seqK fun Kk11 k11 => ?_
    refine CWp.regionW [4] ?_
    refine VC.s rfl (RVs.move rfl rfl (fun _ => rfl) ?_)
    refine VC.s rfl (RVs.assign rfl rfl (fun _ => rfl) ?_)
    refine VC.nil (k11 ⟨27, [(4, _)]⟩ _ ?_)
    refine CWp.ret (q _ _ _ (.cons (.tmp rfl) .nil) ?_).1
    have hz := hs1
    rw [marks_all hge (by omega)] at hz
    exact ⟨by simp only [one]; congr 1; omega, Sep.done (i := 0) hz rfl⟩

end Go.Proofs.Ytaccaelocddakaa
