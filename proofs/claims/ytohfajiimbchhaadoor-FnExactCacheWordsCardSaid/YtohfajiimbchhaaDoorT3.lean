/- The walks of the functions that measure, copy and compare. -/
import Derived.Test.YtohfajiimbchhaaDoorFacts
namespace Go.Proofs.YtohfajiimbchhaaDoor
open Go Go.RowKit
set_option linter.unusedVariables false
set_option maxRecDepth 20000
variable [Tabs]

theorem szSeenS (va : Value) (xs : List Seen) (left : Int) (H : AH) (hS : kSeen.S H va xs) (h0 : 0 ≤ left) (h1 : left ≤ 1048576) : FWp Tryd.prog 13 [va, .int .i64 left] H (fun v' H' => v' = .int .i64 (szl xs.length left) ∧ H' = H) := by
  refine FWp.pure rfl fun H ph => ?_
  replace hS := hS.mono (hle ph)
  have hl := hS.lim
  unfold lim at hl
  obtain ⟨aa, ca, rfl, hca⟩ := hS.form
  refine FWp.enterK Tryd.func13 rfl (by decide +kernel) rfl rfl fun Q q => ?_
  refine CWp.seqK fun Kk1 k1 => ?_
  refine CWp.regionW [0, 1] ?_
  refine VC.s rfl (RVs.assign rfl rfl (fun _ => rfl) ?_)
  refine VC.nil (k1 ⟨12, [(0, _), (1, _)]⟩ _ ?_)
  refine CWp.seqK fun Kk2 k2 => ?_
  refine CWp.regionW [1] ?_
  refine VC.s rfl (RVs.move rfl rfl (fun _ => rfl) ?_)
  refine VC.s rfl (RVs.move rfl rfl (fun _ => rfl) ?_)
  refine VC.s rfl (RVs.len_slice rfl UnSl.h rfl (fun _ => rfl) ?_)
  refine VC.s rfl (RVs.bin rfl rfl rfl rfl (fun _ => ⟨⟨rfl, rfl⟩, rfl⟩) ?_)
  rw [wrap_in (by omega)]
  refine VC.s rfl (RVs.assign rfl rfl (fun _ => rfl) ?_)
  refine VC.nil (k2 ⟨12, [(1, _)]⟩ _ ?_)
  refine CWp.seqK fun Kk3 k3 => ?_
  refine CWp.seqK fun Kk4 k4 => ?_
  refine CWp.regionW [1, 10] ?_
  refine VC.s rfl (RVs.move rfl rfl (fun _ => rfl) ?_)
  refine VC.s rfl (RVs.bin rfl rfl rfl rfl (fun _ => ⟨⟨rfl, rfl⟩, rfl⟩) ?_)
  refine VC.nil (k4 ⟨12, [(1, _), (10, _)]⟩ _ ?_)
  refine CWp.condV rfl (fun hc1 => ?_) (fun hc1 => ?_)
  · try simp at hc1
    refine CWp.seqK fun Kk5 k5 => ?_
    refine CWp.regionW [4] ?_
    refine VC.s rfl (RVs.assign rfl rfl (fun _ => rfl) ?_)
    refine VC.nil (k5 ⟨12, [(4, _)]⟩ _ ?_)
    refine CWp.ret (q _ _ _ (.cons (.tmp rfl) .nil) ?_).1
    exact ⟨by simp [one, szl, hc1], (List.prefix_refl H)⟩
  · try simp at hc1
    refine CWp.skip ?_
    refine k3 _ _ ?_
    refine CWp.seqK fun Kk6 k6 => ?_
    refine CWp.regionW [4] ?_
    refine VC.s rfl (RVs.move rfl rfl (fun _ => rfl) ?_)
    refine VC.s rfl (RVs.assign rfl rfl (fun _ => rfl) ?_)
    refine VC.nil (k6 ⟨12, [(4, _)]⟩ _ ?_)
    refine CWp.ret (q _ _ _ (.cons (.tmp rfl) .nil) ?_).1
    exact ⟨by simp only [one, szl]; rw [if_neg (by omega)], (List.prefix_refl H)⟩

theorem szCache (x : Cache) (v : Value) (left : Int) (H : AH) (hS : kSeen.S H v x.seens) (hb : x.box.length ≤ lim) (h0 : 0 ≤ left) (h1 : left ≤ 1048576) : FWp Tryd.prog 4 [.agg #[.string (bs x.box), .int .i64 x.valid, .int .i64 x.mod, v], .int .i64 left] H (fun v' H' => v' = .int .i64 (szCacheL x left) ∧ H' = H) := by
  refine FWp.pure rfl fun H ph => ?_
  replace hS := hS.mono (hle ph)
  have hl := hS.lim
  unfold lim at hl
  obtain ⟨aa, ca, rfl, hca⟩ := hS.form
  unfold lim at hb
  refine FWp.enterK Tryd.func4 rfl (by decide +kernel) rfl rfl fun Q q => ?_
  refine CWp.seqK fun Kk1 k1 => ?_
  refine CWp.regionW [1, 2] ?_
  refine VC.s rfl (RVs.box rfl TyOf.h rfl rfl rfl ?_)
  intro b1 H1 g1 l1 a1
  have lo1 := Nat.le_trans (List.IsPrefix.length_le (List.prefix_refl H)) l1
  have p1 := (List.prefix_refl H).trans g1
  refine VC.s rfl (RVs.assign rfl rfl (fun _ => rfl) ?_)
  refine VC.nil (k1 ⟨19, [(1, _), (2, _)]⟩ _ ?_)
  refine CWp.seqK fun Kk2 k2 => ?_
  refine CWp.regionW [1, 2] ?_
  refine VC.s rfl (RVs.move rfl rfl (fun _ => rfl) ?_)
  refine VC.s rfl (RVs.fieldAddr rfl FieldOf.h (by decide) rfl (fun _ => rfl) ?_)
  refine VC.s rfl (RVs.load rfl TyOf.h rfl (fun _ => ⟨rfl, a1, rw_live, rfl⟩) ?_)
  refine VC.s rfl (RVs.len_string rfl UnStr.h rfl (fun _ => rfl) ?_)
  refine VC.s rfl (RVs.bin rfl rfl rfl rfl (fun _ => ⟨⟨rfl, rfl⟩, rfl⟩) ?_)
  rw [bl_bs, wrap_in (by omega)]
  refine VC.s rfl (RVs.assign rfl rfl (fun _ => rfl) ?_)
  refine VC.nil (k2 ⟨19, [(1, _), (2, _)]⟩ _ ?_)
  refine CWp.seqK fun Kk3 k3 => ?_
  refine CWp.seqK fun Kk4 k4 => ?_
  refine CWp.regionW [1, 2, 11] ?_
  refine VC.s rfl (RVs.move rfl rfl (fun _ => rfl) ?_)
  refine VC.s rfl (RVs.bin rfl rfl rfl rfl (fun _ => ⟨⟨rfl, rfl⟩, rfl⟩) ?_)
  refine VC.nil (k4 ⟨19, [(1, _), (2, _), (11, _)]⟩ _ ?_)
  refine CWp.condV rfl (fun hc1 => ?_) (fun hc1 => ?_)
  · try simp at hc1
    refine CWp.seqK fun Kk5 k5 => ?_
    refine CWp.regionW [4] ?_
    refine VC.s rfl (RVs.assign rfl rfl (fun _ => rfl) ?_)
    refine VC.nil (k5 ⟨19, [(4, _)]⟩ _ ?_)
    refine CWp.ret (q _ _ _ (.cons (.tmp rfl) .nil) ?_).1
    exact ⟨by simp [one, szCacheL, hc1], p1⟩
  · try simp at hc1
    refine CWp.skip ?_
    refine k3 _ _ ?_
    refine CWp.seqK fun Kk6 k6 => ?_
    refine CWp.regionW [1] ?_
    refine VC.s rfl (RVs.fieldAddr rfl FieldOf.h (by decide) rfl (fun _ => rfl) ?_)
    refine VC.s rfl (RVs.load rfl TyOf.h rfl (fun _ => ⟨rfl, a1, rw_live, rfl⟩) ?_)
    refine VC.s rfl (RVs.move rfl rfl (fun _ => rfl) ?_)
    refine VC.s rfl (RVs.callp rfl rfl rfl (fun _ => ⟨⟨rfl, rfl⟩, szSeenS _ _ _ _ (hS.mono (hle p1)) (by omega) (by omega)⟩) ?_)
    refine VC.s rfl (RVs.assign rfl rfl (fun _ => rfl) ?_)
    refine VC.nil (k6 ⟨19, [(1, _)]⟩ _ ?_)
    refine CWp.seqK fun Kk7 k7 => ?_
    refine CWp.seqK fun Kk8 k8 => ?_
    refine CWp.regionW [1, 17] ?_
    refine VC.s rfl (RVs.move rfl rfl (fun _ => rfl) ?_)
    refine VC.s rfl (RVs.bin rfl rfl rfl rfl (fun _ => ⟨⟨rfl, rfl⟩, rfl⟩) ?_)
    refine VC.nil (k8 ⟨19, [(1, _), (17, _)]⟩ _ ?_)
    refine CWp.condV rfl (fun hc2 => ?_) (fun hc2 => ?_)
    · try simp at hc2
      refine CWp.seqK fun Kk9 k9 => ?_
      refine CWp.regionW [4] ?_
      refine VC.s rfl (RVs.assign rfl rfl (fun _ => rfl) ?_)
      refine VC.nil (k9 ⟨19, [(4, _)]⟩ _ ?_)
      refine CWp.ret (q _ _ _ (.cons (.tmp rfl) .nil) ?_).1
      exact ⟨by simp only [one, szCacheL]; rw [if_neg (by omega)]; unfold szl at *; split at hc2 <;> simp_all, p1⟩
    · try simp at hc2
      refine CWp.skip ?_
      refine k7 _ _ ?_
      refine CWp.seqK fun Kk10 k10 => ?_
      refine CWp.regionW [4] ?_
      refine VC.s rfl (RVs.move rfl rfl (fun _ => rfl) ?_)
      refine VC.s rfl (RVs.assign rfl rfl (fun _ => rfl) ?_)
      refine VC.nil (k10 ⟨19, [(4, _)]⟩ _ ?_)
      refine CWp.ret (q _ _ _ (.cons (.tmp rfl) .nil) ?_).1
      exact ⟨by simp only [one, szCacheL]; rw [if_neg (by omega)], p1⟩

theorem toSeen (x : Seen) (H : AH) : FWp Tryd.prog 26 [.agg #[.int .i64 x.uid, .int .i64 x.flags, .int .i64 x.mod]] H (fun v' H' => v' = .agg #[.int .i64 x.uid, .int .i64 x.flags, .int .i64 x.mod] ∧ H' = H) := by
  refine FWp.pure rfl fun H ph => ?_
  refine FWp.enterK Tryd.func26 rfl (by decide +kernel) rfl rfl fun Q q => ?_
  refine CWp.seqK fun Kk1 k1 => ?_
  refine CWp.regionW [1, 2] ?_
  refine VC.s rfl (RVs.box rfl TyOf.h rfl rfl rfl ?_)
  intro b1 H1 g1 l1 a1
  have lo1 := Nat.le_trans (List.IsPrefix.length_le (List.prefix_refl H)) l1
  have p1 := (List.prefix_refl H).trans g1
  refine VC.s rfl (RVs.alloc ZeroOf.h TyOf.h rfl rfl ?_)
  intro b2 H2 g2 l2 a2
  have lt1 := Nat.lt_of_lt_of_le (lt_of_at a1) l2
  have lo2 := Nat.le_trans (List.IsPrefix.length_le p1) l2
  have p2 := p1.trans g2
  have a3 := get_prefix g2 a1
  refine VC.nil (k1 ⟨14, [(1, _), (2, _)]⟩ _ ?_)
  refine CWp.seqK fun Kk2 k2 => ?_
  refine CWp.regionW [1, 2, 3] ?_
  refine VC.s rfl (RVs.alloc ZeroOf.h TyOf.h rfl rfl ?_)
  intro b3 H3 g3 l3 a4
  have lt2 := Nat.lt_of_lt_of_le (lt_of_at a3) l3
  have lt3 := Nat.lt_of_lt_of_le (lt_of_at a2) l3
  have lo3 := Nat.le_trans (List.IsPrefix.length_le p2) l3
  have p3 := p2.trans g3
  have a5 := get_prefix g3 a3
  have a6 := get_prefix g3 a2
  refine VC.nil (k2 ⟨14, [(1, _), (2, _), (3, _)]⟩ _ ?_)
  refine CWp.seqK fun Kk3 k3 => ?_
  refine CWp.regionW [1, 2, 3] ?_
  refine VC.s rfl (RVs.fieldAddr rfl FieldOf.h (by decide) rfl (fun _ => rfl) ?_)
  refine VC.s rfl (RVs.load rfl TyOf.h rfl (fun _ => ⟨rfl, a5, rw_live, rfl⟩) ?_)
  refine VC.s rfl (RVs.fieldAddr rfl FieldOf.h (by decide) rfl (fun _ => rfl) ?_)
  refine VC.s rfl (RVs.store1 rfl rfl TyOf.h rfl rfl rfl ⟨rfl, rfl⟩ a4 rfl (Nat.le_of_ble_eq_true rfl) rfl ?_)
  intro H4 u1
  have p4 := u1.prefix p3 lo3
  have a7 := u1.other (Nat.ne_of_lt lt2) a5
  have a8 := u1.other (Nat.ne_of_lt lt3) a6
  have a9 := u1.at_
  refine VC.nil (k3 ⟨14, [(1, _), (2, _), (3, _)]⟩ _ ?_)
  refine CWp.seqK fun Kk4 k4 => ?_
  refine CWp.regionW [1, 2, 3] ?_
  refine VC.s rfl (RVs.fieldAddr rfl FieldOf.h (by decide) rfl (fun _ => rfl) ?_)
  refine VC.s rfl (RVs.load rfl TyOf.h rfl (fun _ => ⟨rfl, a7, rw_live, rfl⟩) ?_)
  refine VC.s rfl (RVs.fieldAddr rfl FieldOf.h (by decide) rfl (fun _ => rfl) ?_)
  refine VC.s rfl (RVs.store1 rfl rfl TyOf.h rfl rfl rfl ⟨rfl, rfl⟩ a9 rfl (Nat.le_of_ble_eq_true rfl) rfl ?_)
  intro H5 u2
  have p5 := u2.prefix p4 lo3
  have a10 := u2.other (Nat.ne_of_lt lt2) a7
  have a11 := u2.other (Nat.ne_of_lt lt3) a8
  have a12 := u2.at_
  refine VC.nil (k4 ⟨14, [(1, _), (2, _), (3, _)]⟩ _ ?_)
  refine CWp.seqK fun Kk5 k5 => ?_
  refine CWp.regionW [2, 3] ?_
  refine VC.s rfl (RVs.fieldAddr rfl FieldOf.h (by decide) rfl (fun _ => rfl) ?_)
  refine VC.s rfl (RVs.load rfl TyOf.h rfl (fun _ => ⟨rfl, a10, rw_live, rfl⟩) ?_)
  refine VC.s rfl (RVs.fieldAddr rfl FieldOf.h (by decide) rfl (fun _ => rfl) ?_)
  refine VC.s rfl (RVs.store1 rfl rfl TyOf.h rfl rfl rfl ⟨rfl, rfl⟩ a12 rfl (Nat.le_of_ble_eq_true rfl) rfl ?_)
  intro H6 u3
  have p6 := u3.prefix p5 lo3
  have a13 := u3.other (Nat.ne_of_lt lt2) a10
  have a14 := u3.other (Nat.ne_of_lt lt3) a11
  have a15 := u3.at_
  refine VC.nil (k5 ⟨14, [(2, _), (3, _)]⟩ _ ?_)
  refine CWp.seqK fun Kk6 k6 => ?_
  refine CWp.regionW [2] ?_
  refine VC.s rfl (RVs.load_agg rfl TyOf.h rfl (fun _ => ⟨rfl, a15, rw_live, Nat.le_of_ble_eq_true rfl, rfl⟩) ?_)
  refine VC.s rfl (RVs.storeN rfl rfl TyOf.h rfl rfl rfl ⟨rfl, rfl⟩ a14 rfl rfl (Nat.le_of_ble_eq_true rfl) rfl ?_)
  intro H7 u4
  have p7 := u4.prefix p6 lo2
  have a16 := u4.other (Nat.ne_of_lt lt1) a13
  have a17 := u4.at_
  have a18 := u4.other (Nat.ne_of_gt lt3) a15
  refine VC.nil (k6 ⟨14, [(2, _)]⟩ _ ?_)
  refine CWp.ret (q _ _ _ (.cons (.cells rfl (Ty.of TyOf.h) a17 rw_live (Nat.le_of_ble_eq_true rfl)) .nil) ?_).1
  exact ⟨rfl, p7⟩

theorem eqSeen (x y : Seen) (H : AH) : FWp Tryd.prog 32 [.agg #[.int .i64 x.uid, .int .i64 x.flags, .int .i64 x.mod], .agg #[.int .i64 y.uid, .int .i64 y.flags, .int .i64 y.mod]] H (fun v' H' => v' = .bool (decide (x = y)) ∧ H' = H) := by
  refine FWp.pure rfl fun H ph => ?_
  refine FWp.enterK Tryd.func32 rfl (by decide +kernel) rfl rfl fun Q q => ?_
  refine CWp.seqK fun Kk1 k1 => ?_
  refine CWp.regionW [2, 3] ?_
  refine VC.s rfl (RVs.box rfl TyOf.h rfl rfl rfl ?_)
  intro b1 H1 g1 l1 a1
  have lo1 := Nat.le_trans (List.IsPrefix.length_le (List.prefix_refl H)) l1
  have p1 := (List.prefix_refl H).trans g1
  refine VC.s rfl (RVs.box rfl TyOf.h rfl rfl rfl ?_)
  intro b2 H2 g2 l2 a2
  have lt1 := Nat.lt_of_lt_of_le (lt_of_at a1) l2
  have lo2 := Nat.le_trans (List.IsPrefix.length_le p1) l2
  have p2 := p1.trans g2
  have a3 := get_prefix g2 a1
  refine VC.s rfl (RVs.assign rfl rfl (fun _ => rfl) ?_)
  refine VC.nil (k1 ⟨20, [(2, _), (3, _)]⟩ _ ?_)
  refine CWp.seqK fun Kk2 k2 => ?_
  refine CWp.seqK fun Kk3 k3 => ?_
  refine CWp.regionW [2, 3, 9] ?_
  refine VC.s rfl (RVs.fieldAddr rfl FieldOf.h (by decide) rfl (fun _ => rfl) ?_)
  refine VC.s rfl (RVs.load rfl TyOf.h rfl (fun _ => ⟨rfl, a3, rw_live, rfl⟩) ?_)
  refine VC.s rfl (RVs.fieldAddr rfl FieldOf.h (by decide) rfl (fun _ => rfl) ?_)
  refine VC.s rfl (RVs.load rfl TyOf.h rfl (fun _ => ⟨rfl, a2, rw_live, rfl⟩) ?_)
  refine VC.s rfl (RVs.bin rfl rfl rfl rfl (fun _ => ⟨⟨rfl, rfl⟩, rfl⟩) ?_)
  refine VC.nil (k3 ⟨20, [(2, _), (3, _), (9, _)]⟩ _ ?_)
  refine CWp.condV rfl (fun hc1 => ?_) (fun hc1 => ?_)
  · try simp at hc1
    refine CWp.seqK fun Kk4 k4 => ?_
    refine CWp.regionW [4] ?_
    refine VC.s rfl (RVs.assign rfl rfl (fun _ => rfl) ?_)
    refine VC.nil (k4 ⟨20, [(4, _)]⟩ _ ?_)
    refine CWp.ret (q _ _ _ (.cons (.tmp rfl) .nil) ?_).1
    exact ⟨by simp [one, show ¬ x = y from fun h => hc1 (by rw [h])], p2⟩
  · try simp at hc1
    refine CWp.skip ?_
    refine k2 _ _ ?_
    refine CWp.seqK fun Kk5 k5 => ?_
    refine CWp.seqK fun Kk6 k6 => ?_
    refine CWp.regionW [2, 3, 14] ?_
    refine VC.s rfl (RVs.fieldAddr rfl FieldOf.h (by decide) rfl (fun _ => rfl) ?_)
    refine VC.s rfl (RVs.load rfl TyOf.h rfl (fun _ => ⟨rfl, a3, rw_live, rfl⟩) ?_)
    refine VC.s rfl (RVs.fieldAddr rfl FieldOf.h (by decide) rfl (fun _ => rfl) ?_)
    refine VC.s rfl (RVs.load rfl TyOf.h rfl (fun _ => ⟨rfl, a2, rw_live, rfl⟩) ?_)
    refine VC.s rfl (RVs.bin rfl rfl rfl rfl (fun _ => ⟨⟨rfl, rfl⟩, rfl⟩) ?_)
    refine VC.nil (k6 ⟨20, [(2, _), (3, _), (14, _)]⟩ _ ?_)
    refine CWp.condV rfl (fun hc2 => ?_) (fun hc2 => ?_)
    · try simp at hc2
      refine CWp.seqK fun Kk7 k7 => ?_
      refine CWp.regionW [4] ?_
      refine VC.s rfl (RVs.assign rfl rfl (fun _ => rfl) ?_)
      refine VC.nil (k7 ⟨20, [(4, _)]⟩ _ ?_)
      refine CWp.ret (q _ _ _ (.cons (.tmp rfl) .nil) ?_).1
      exact ⟨by simp [one, show ¬ x = y from fun h => hc2 (by rw [h])], p2⟩
    · try simp at hc2
      refine CWp.skip ?_
      refine k5 _ _ ?_
      refine CWp.seqK fun Kk8 k8 => ?_
      refine CWp.seqK fun Kk9 k9 => ?_
      refine CWp.regionW [19] ?_
      refine VC.s rfl (RVs.fieldAddr rfl FieldOf.h (by decide) rfl (fun _ => rfl) ?_)
      refine VC.s rfl (RVs.load rfl TyOf.h rfl (fun _ => ⟨rfl, a3, rw_live, rfl⟩) ?_)
      refine VC.s rfl (RVs.fieldAddr rfl FieldOf.h (by decide) rfl (fun _ => rfl) ?_)
      refine VC.s rfl (RVs.load rfl TyOf.h rfl (fun _ => ⟨rfl, a2, rw_live, rfl⟩) ?_)
      refine VC.s rfl (RVs.bin rfl rfl rfl rfl (fun _ => ⟨⟨rfl, rfl⟩, rfl⟩) ?_)
      refine VC.nil (k9 ⟨20, [(19, _)]⟩ _ ?_)
      refine CWp.condV rfl (fun hc3 => ?_) (fun hc3 => ?_)
      · try simp at hc3
        refine CWp.seqK fun Kk10 k10 => ?_
        refine CWp.regionW [4] ?_
        refine VC.s rfl (RVs.assign rfl rfl (fun _ => rfl) ?_)
        refine VC.nil (k10 ⟨20, [(4, _)]⟩ _ ?_)
        refine CWp.ret (q _ _ _ (.cons (.tmp rfl) .nil) ?_).1
        exact ⟨by simp [one, show ¬ x = y from fun h => hc3 (by rw [h])], p2⟩
      · try simp at hc3
        refine CWp.skip ?_
        refine k8 _ _ ?_
        refine CWp.seqK fun Kk11 k11 => ?_
        refine CWp.regionW [4] ?_
        refine VC.s rfl (RVs.assign rfl rfl (fun _ => rfl) ?_)
        refine VC.nil (k11 ⟨20, [(4, _)]⟩ _ ?_)
        refine CWp.ret (q _ _ _ (.cons (.tmp rfl) .nil) ?_).1
        exact ⟨by cases x; cases y; simp_all [one], p2⟩

theorem eqSeenS (va vb : Value) (xs ys : List Seen) (H : AH) (ha : kSeen.S H va xs) (hb : kSeen.S H vb ys) : FWp Tryd.prog 19 [va, vb] H (fun v' H' => v' = .bool (decide (xs = ys)) ∧ H' = H) := by
  refine FWp.pure rfl fun H ph => ?_
  replace ha := ha.mono (hle ph)
  replace hb := hb.mono (hle ph)
  have hla := ha.lim
  have hlb := hb.lim
  obtain ⟨aa, ca, rfl, hca⟩ := ha.form
  obtain ⟨ab, cb, rfl, hcb⟩ := hb.form
  refine FWp.enterK Tryd.func19 rfl (by decide +kernel) rfl rfl fun Q q => ?_
  refine CWp.seqK fun Kk1 k1 => ?_
  refine CWp.regionW [0, 1] ?_
  refine VC.s rfl (RVs.assign rfl rfl (fun _ => rfl) ?_)
  refine VC.nil (k1 ⟨27, [(0, _), (1, _)]⟩ _ ?_)
  refine CWp.seqK fun Kk2 k2 => ?_
  refine CWp.seqK fun Kk3 k3 => ?_
  refine CWp.regionW [0, 1, 10] ?_
  refine VC.s rfl (RVs.move rfl rfl (fun _ => rfl) ?_)
  refine VC.s rfl (RVs.len_slice rfl UnSl.h rfl (fun _ => rfl) ?_)
  refine VC.s rfl (RVs.move rfl rfl (fun _ => rfl) ?_)
  refine VC.s rfl (RVs.len_slice rfl UnSl.h rfl (fun _ => rfl) ?_)
  refine VC.s rfl (RVs.bin rfl rfl rfl rfl (fun _ => ⟨⟨rfl, rfl⟩, rfl⟩) ?_)
  refine VC.nil (k3 ⟨27, [(0, _), (1, _), (10, _)]⟩ _ ?_)
  refine CWp.condV rfl (fun hc1 => ?_) (fun hc1 => ?_)
  · try simp at hc1
    refine CWp.seqK fun Kk4 k4 => ?_
    refine CWp.regionW [4] ?_
    refine VC.s rfl (RVs.assign rfl rfl (fun _ => rfl) ?_)
    refine VC.nil (k4 ⟨27, [(4, _)]⟩ _ ?_)
    refine CWp.ret (q _ _ _ (.cons (.tmp rfl) .nil) ?_).1
    exact ⟨by simp [one, show ¬ xs = ys from fun h => hc1 (by rw [h])], (List.prefix_refl H)⟩
  · try simp at hc1
    refine CWp.skip ?_
    refine k2 _ _ ?_
    refine CWp.seqK fun Kk5 k5 => ?_
    refine CWp.seqK fun Kk6 k6 => ?_
    refine CWp.regionW [0, 1, 5] ?_
    refine VC.s rfl (RVs.assign rfl rfl (fun _ => rfl) ?_)
    refine VC.nil (k6 ⟨27, [(0, _), (1, _), (5, _)]⟩ _ ?_)
    refine CWp.block ?_
    refine CWp.loopK (fun n T H' => ∃ i : Nat, T = ⟨27, [(0, .slice aa xs.length ca), (1, .slice ab ys.length cb), (5, .int .i64 (i : Int))]⟩ ∧ n = xs.length - i ∧ (i ≤ xs.length) ∧ (xs.take i = ys.take i) ∧ H <+: H') (n := xs.length) ⟨0, rfl, by first | rfl | simp, by omega, by simp, List.prefix_refl _⟩ ?_
    rintro n T Hl1 Kk7 k7 ⟨i, rfl, hn1, hi, heq, pl1⟩
    have p1 := (List.prefix_refl H).trans pl1
    refine CWp.seqK fun Kk8 k8 => ?_
    refine CWp.seqK fun Kk9 k9 => ?_
    refine CWp.regionW [0, 1, 5, 14] ?_
    refine VC.s rfl (RVs.move rfl rfl (fun _ => rfl) ?_)
    refine VC.s rfl (RVs.move rfl rfl (fun _ => rfl) ?_)
    refine VC.s rfl (RVs.len_slice rfl UnSl.h rfl (fun _ => rfl) ?_)
    refine VC.s rfl (RVs.bin rfl rfl rfl rfl (fun _ => ⟨⟨rfl, rfl⟩, rfl⟩) ?_)
    refine VC.nil (k9 ⟨27, [(0, _), (1, _), (5, _), (14, _)]⟩ _ ?_)
    refine CWp.condV rfl (fun hc2 => ?_) (fun hc2 => ?_)
    · try simp at hc2
      refine CWp.skip ?_
      refine k8 _ _ ?_
      refine CWp.seqK fun Kk10 k10 => ?_
      refine CWp.block ?_
      refine CWp.seqK fun Kk11 k11 => ?_
      refine CWp.regionDW [0, 1, 5, 26] [false, false, false, false, false, false, false, false, false, false] (by decide +kernel) ?_
      refine VC.s rfl (RVs.move rfl rfl (fun _ => rfl) ?_)
      refine VC.s rfl (RVs.move rfl rfl (fun _ => rfl) ?_)
      refine VC.s rfl (RVs.indexS rfl (ha.mono (hle p1)) rfl ElemOf.h rfl (fun _ => ⟨⟨rfl, rfl⟩, by omega, by omega⟩) ?_)
      intro id1 j1 u1 B1 e1
      obtain ⟨y1, hy1, e1⟩ := e1 rfl
      obtain ⟨rfl, _⟩ := e1.r
      refine VC.s rfl (RVs.loadE (k := kSeen) rfl TyOf.h rfl (fun _ => ⟨rfl, e1⟩) ?_)
      refine VC.s rfl (RVs.move rfl rfl (fun _ => rfl) ?_)
      refine VC.s rfl (RVs.move rfl rfl (fun _ => rfl) ?_)
      refine VC.s rfl (RVs.indexS rfl (hb.mono (hle p1)) rfl ElemOf.h rfl (fun _ => ⟨⟨rfl, rfl⟩, by omega, by omega⟩) ?_)
      intro id2 j2 u2 B2 e2
      obtain ⟨y2, hy2, e2⟩ := e2 rfl
      obtain ⟨rfl, _⟩ := e2.r
      refine VC.s rfl (RVs.loadE (k := kSeen) rfl TyOf.h rfl (fun _ => ⟨rfl, e2⟩) ?_)
      refine VC.s rfl (RVs.callp rfl rfl rfl (fun _ => ⟨⟨rfl, rfl⟩, eqSeen _ _ _⟩) ?_)
      refine VC.s rfl (RVs.not rfl rfl (fun _ => rfl) ?_)
      refine VC.nil (k11 ⟨27, [(0, _), (1, _), (5, _), (26, _)]⟩ _ ?_)
      refine CWp.condV rfl (fun hc3 => ?_) (fun hc3 => ?_)
      · try simp at hc3
        refine CWp.seqK fun Kk12 k12 => ?_
        refine CWp.regionW [4] ?_
        refine VC.s rfl (RVs.assign rfl rfl (fun _ => rfl) ?_)
        refine VC.nil (k12 ⟨27, [(4, _)]⟩ _ ?_)
        refine CWp.ret (q _ _ _ (.cons (.tmp rfl) .nil) ?_).1
        exact ⟨by simp [one, ne_at hy1 hy2 hc3], p1⟩
      · try simp at hc3
        refine CWp.skip ?_
        refine k10 _ _ ?_
        refine CWp.regionW [0, 1, 5] ?_
        refine VC.s rfl (RVs.move rfl rfl (fun _ => rfl) ?_)
        refine VC.s rfl (RVs.bin rfl rfl rfl rfl (fun _ => ⟨⟨rfl, rfl⟩, rfl⟩) ?_)
        refine VC.s rfl (RVs.assign rfl rfl (fun _ => rfl) ?_)
        rw [wrap_succ (n := xs.length) (by omega) (by omega)]
        refine VC.nil (k7 _ ⟨27, [(0, _), (1, _), (5, _)]⟩ _ ?_ ⟨i + 1, rfl, rfl, by omega, take_succ heq hy1 hy2 hc3, pl1.trans (List.prefix_refl _)⟩)
        omega
    · try simp at hc2
      refine CWp.exit ?_
      refine k5 _ _ ?_
      refine CWp.seqK fun Kk13 k13 => ?_
      refine CWp.regionW [4] ?_
      refine VC.s rfl (RVs.assign rfl rfl (fun _ => rfl) ?_)
      refine VC.nil (k13 ⟨27, [(4, _)]⟩ _ ?_)
      refine CWp.ret (q _ _ _ (.cons (.tmp rfl) .nil) ?_).1
      exact ⟨by simp [one, take_all heq (by omega) (by omega)], p1⟩

theorem eqCache (x y : Cache) (v w : Value) (H : AH) (hS : kSeen.S H v x.seens) (hT : kSeen.S H w y.seens) : FWp Tryd.prog 9 [.agg #[.string (bs x.box), .int .i64 x.valid, .int .i64 x.mod, v], .agg #[.string (bs y.box), .int .i64 y.valid, .int .i64 y.mod, w]] H (fun v' H' => v' = .bool (decide (x = y)) ∧ H' = H) := by
  refine FWp.pure rfl fun H ph => ?_
  replace hS := hS.mono (hle ph)
  replace hT := hT.mono (hle ph)
  refine FWp.enterK Tryd.func9 rfl (by decide +kernel) rfl rfl fun Q q => ?_
  refine CWp.seqK fun Kk1 k1 => ?_
  refine CWp.regionW [2, 3] ?_
  refine VC.s rfl (RVs.box rfl TyOf.h rfl rfl rfl ?_)
  intro b1 H1 g1 l1 a1
  have lo1 := Nat.le_trans (List.IsPrefix.length_le (List.prefix_refl H)) l1
  have p1 := (List.prefix_refl H).trans g1
  refine VC.s rfl (RVs.box rfl TyOf.h rfl rfl rfl ?_)
  intro b2 H2 g2 l2 a2
  have lt1 := Nat.lt_of_lt_of_le (lt_of_at a1) l2
  have lo2 := Nat.le_trans (List.IsPrefix.length_le p1) l2
  have p2 := p1.trans g2
  have a3 := get_prefix g2 a1
  refine VC.s rfl (RVs.assign rfl rfl (fun _ => rfl) ?_)
  refine VC.nil (k1 ⟨26, [(2, _), (3, _)]⟩ _ ?_)
  refine CWp.seqK fun Kk2 k2 => ?_
  refine CWp.seqK fun Kk3 k3 => ?_
  refine CWp.regionW [2, 3, 9] ?_
  refine VC.s rfl (RVs.fieldAddr rfl FieldOf.h (by decide) rfl (fun _ => rfl) ?_)
  refine VC.s rfl (RVs.load rfl TyOf.h rfl (fun _ => ⟨rfl, a3, rw_live, rfl⟩) ?_)
  refine VC.s rfl (RVs.fieldAddr rfl FieldOf.h (by decide) rfl (fun _ => rfl) ?_)
  refine VC.s rfl (RVs.load rfl TyOf.h rfl (fun _ => ⟨rfl, a2, rw_live, rfl⟩) ?_)
  refine VC.s rfl (RVs.bin rfl rfl rfl rfl (fun _ => ⟨⟨rfl, rfl⟩, trivial⟩) ?_)
  refine VC.nil (k3 ⟨26, [(2, _), (3, _), (9, _)]⟩ _ ?_)
  refine CWp.condV rfl (fun hc1 => ?_) (fun hc1 => ?_)
  · try simp at hc1
    refine CWp.seqK fun Kk4 k4 => ?_
    refine CWp.regionW [4] ?_
    refine VC.s rfl (RVs.assign rfl rfl (fun _ => rfl) ?_)
    refine VC.nil (k4 ⟨26, [(4, _)]⟩ _ ?_)
    refine CWp.ret (q _ _ _ (.cons (.tmp rfl) .nil) ?_).1
    exact ⟨by simp [one, show ¬ x = y from fun h => hc1 (by rw [h])], p2⟩
  · try simp at hc1
    refine CWp.skip ?_
    refine k2 _ _ ?_
    refine CWp.seqK fun Kk5 k5 => ?_
    refine CWp.seqK fun Kk6 k6 => ?_
    refine CWp.regionW [2, 3, 14] ?_
    refine VC.s rfl (RVs.fieldAddr rfl FieldOf.h (by decide) rfl (fun _ => rfl) ?_)
    refine VC.s rfl (RVs.load rfl TyOf.h rfl (fun _ => ⟨rfl, a3, rw_live, rfl⟩) ?_)
    refine VC.s rfl (RVs.fieldAddr rfl FieldOf.h (by decide) rfl (fun _ => rfl) ?_)
    refine VC.s rfl (RVs.load rfl TyOf.h rfl (fun _ => ⟨rfl, a2, rw_live, rfl⟩) ?_)
    refine VC.s rfl (RVs.bin rfl rfl rfl rfl (fun _ => ⟨⟨rfl, rfl⟩, rfl⟩) ?_)
    refine VC.nil (k6 ⟨26, [(2, _), (3, _), (14, _)]⟩ _ ?_)
    refine CWp.condV rfl (fun hc2 => ?_) (fun hc2 => ?_)
    · try simp at hc2
      refine CWp.seqK fun Kk7 k7 => ?_
      refine CWp.regionW [4] ?_
      refine VC.s rfl (RVs.assign rfl rfl (fun _ => rfl) ?_)
      refine VC.nil (k7 ⟨26, [(4, _)]⟩ _ ?_)
      refine CWp.ret (q _ _ _ (.cons (.tmp rfl) .nil) ?_).1
      exact ⟨by simp [one, show ¬ x = y from fun h => hc2 (by rw [h])], p2⟩
    · try simp at hc2
      refine CWp.skip ?_
      refine k5 _ _ ?_
      refine CWp.seqK fun Kk8 k8 => ?_
      refine CWp.seqK fun Kk9 k9 => ?_
      refine CWp.regionW [2, 3, 19] ?_
      refine VC.s rfl (RVs.fieldAddr rfl FieldOf.h (by decide) rfl (fun _ => rfl) ?_)
      refine VC.s rfl (RVs.load rfl TyOf.h rfl (fun _ => ⟨rfl, a3, rw_live, rfl⟩) ?_)
      refine VC.s rfl (RVs.fieldAddr rfl FieldOf.h (by decide) rfl (fun _ => rfl) ?_)
      refine VC.s rfl (RVs.load rfl TyOf.h rfl (fun _ => ⟨rfl, a2, rw_live, rfl⟩) ?_)
      refine VC.s rfl (RVs.bin rfl rfl rfl rfl (fun _ => ⟨⟨rfl, rfl⟩, rfl⟩) ?_)
      refine VC.nil (k9 ⟨26, [(2, _), (3, _), (19, _)]⟩ _ ?_)
      refine CWp.condV rfl (fun hc3 => ?_) (fun hc3 => ?_)
      · try simp at hc3
        refine CWp.seqK fun Kk10 k10 => ?_
        refine CWp.regionW [4] ?_
        refine VC.s rfl (RVs.assign rfl rfl (fun _ => rfl) ?_)
        refine VC.nil (k10 ⟨26, [(4, _)]⟩ _ ?_)
        refine CWp.ret (q _ _ _ (.cons (.tmp rfl) .nil) ?_).1
        exact ⟨by simp [one, show ¬ x = y from fun h => hc3 (by rw [h])], p2⟩
      · try simp at hc3
        refine CWp.skip ?_
        refine k8 _ _ ?_
        refine CWp.seqK fun Kk11 k11 => ?_
        refine CWp.seqK fun Kk12 k12 => ?_
        refine CWp.regionW [25] ?_
        refine VC.s rfl (RVs.fieldAddr rfl FieldOf.h (by decide) rfl (fun _ => rfl) ?_)
        refine VC.s rfl (RVs.load rfl TyOf.h rfl (fun _ => ⟨rfl, a3, rw_live, rfl⟩) ?_)
        refine VC.s rfl (RVs.fieldAddr rfl FieldOf.h (by decide) rfl (fun _ => rfl) ?_)
        refine VC.s rfl (RVs.load rfl TyOf.h rfl (fun _ => ⟨rfl, a2, rw_live, rfl⟩) ?_)
        refine VC.s rfl (RVs.callp rfl rfl rfl (fun _ => ⟨⟨rfl, rfl⟩, eqSeenS _ _ _ _ _ (hS.mono (hle p2)) (hT.mono (hle p2))⟩) ?_)
        refine VC.s rfl (RVs.not rfl rfl (fun _ => rfl) ?_)
        refine VC.nil (k12 ⟨26, [(25, _)]⟩ _ ?_)
        refine CWp.condV rfl (fun hc4 => ?_) (fun hc4 => ?_)
        · try simp at hc4
          refine CWp.seqK fun Kk13 k13 => ?_
          refine CWp.regionW [4] ?_
          refine VC.s rfl (RVs.assign rfl rfl (fun _ => rfl) ?_)
          refine VC.nil (k13 ⟨26, [(4, _)]⟩ _ ?_)
          refine CWp.ret (q _ _ _ (.cons (.tmp rfl) .nil) ?_).1
          exact ⟨by simp [one, show ¬ x = y from fun h => hc4 (by rw [h])], p2⟩
        · try simp at hc4
          refine CWp.skip ?_
          refine k11 _ _ ?_
          refine CWp.seqK fun Kk14 k14 => ?_
          refine CWp.regionW [4] ?_
          refine VC.s rfl (RVs.assign rfl rfl (fun _ => rfl) ?_)
          refine VC.nil (k14 ⟨26, [(4, _)]⟩ _ ?_)
          refine CWp.ret (q _ _ _ (.cons (.tmp rfl) .nil) ?_).1
          exact ⟨by cases x; cases y; simp_all [one], p2⟩

end Go.Proofs.YtohfajiimbchhaaDoor
