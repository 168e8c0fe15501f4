/- The walk of the law of CacheWords. -/
import Derived.Test.YtohfajiimbchhaaDoorT2
import Derived.Test.YtohfajiimbchhaaDoorT5
import Derived.Test.YtohfajiimbchhaaDoorT9
namespace Go.Proofs.YtohfajiimbchhaaDoor
open Go Go.RowKit
set_option linter.unusedVariables false
set_option maxRecDepth 20000

theorem law (x : Cache) (v : Value) (H : AH) (hS : kSeen.S H v x.seens) (hb : x.box.length ≤ lim) : FWp Tryd.prog 3 [.agg #[.string (bs x.box), .int .i64 x.valid, .int .i64 x.mod, v]] H (fun v' H' => v' = .bool true) := by
  have hwl := cacheWords_len x
  refine FWp.enterK Tryd.func3 rfl (by decide +kernel) rfl rfl fun Q q => ?_
  refine CWp.seqK fun Kk1 k1 => ?_
  refine CWp.regionW [1] ?_
  refine VC.s rfl (RVs.box rfl TyOf.h rfl rfl rfl ?_)
  intro b1 H1 g1 l1 a1
  have lo1 := Nat.le_trans (List.IsPrefix.length_le (List.prefix_refl H)) l1
  have p1 := (List.prefix_refl H).trans g1
  refine VC.s rfl (RVs.assign rfl rfl (fun _ => rfl) ?_)
  refine VC.nil (k1 ⟨69, [(1, _)]⟩ _ ?_)
  refine CWp.seqK fun Kk2 k2 => ?_
  refine CWp.regionW [1, 3] ?_
  refine VC.s rfl (RVs.assign rfl rfl (fun _ => rfl) ?_)
  refine VC.nil (k2 ⟨69, [(1, _), (3, _)]⟩ _ ?_)
  refine CWp.seqK fun Kk3 k3 => ?_
  refine CWp.regionW [1, 3] ?_
  refine VC.s rfl (RVs.load_agg rfl TyOf.h rfl (fun _ => ⟨rfl, a1, rw_live, Nat.le_of_ble_eq_true rfl, rfl⟩) ?_)
  refine VC.s rfl (RVs.move rfl rfl (fun _ => rfl) ?_)
  refine VC.s rfl (RVs.callp rfl rfl rfl (fun _ => ⟨⟨rfl, rfl⟩, szCache _ _ _ _ (hS.mono (hle p1)) hb (by decide) (by decide)⟩) ?_)
  refine VC.s rfl (RVs.assign rfl rfl (fun _ => rfl) ?_)
  refine VC.nil (k3 ⟨69, [(1, _), (3, _)]⟩ _ ?_)
  refine CWp.seqK fun Kk4 k4 => ?_
  refine CWp.seqK fun Kk5 k5 => ?_
  refine CWp.regionW [1, 15] ?_
  refine VC.s rfl (RVs.move rfl rfl (fun _ => rfl) ?_)
  refine VC.s rfl (RVs.bin rfl rfl rfl rfl (fun _ => ⟨⟨rfl, rfl⟩, rfl⟩) ?_)
  refine VC.nil (k5 ⟨69, [(1, _), (15, _)]⟩ _ ?_)
  refine CWp.condV rfl (fun hc1 => ?_) (fun hc1 => ?_)
  · skip
    refine CWp.seqK fun Kk6 k6 => ?_
    refine CWp.regionW [2] ?_
    refine VC.s rfl (RVs.assign rfl rfl (fun _ => rfl) ?_)
    refine VC.nil (k6 ⟨69, [(2, _)]⟩ _ ?_)
    refine CWp.ret (q _ _ _ (.cons (.tmp rfl) .nil) ?_).1
    rfl
  · have hn := szCache_n (of_decide_eq_false hc1)
    refine CWp.skip ?_
    refine k4 _ _ ?_
    refine CWp.seqK fun Kk7 k7 => ?_
    refine CWp.regionW [1, 4] ?_
    refine VC.s rfl (RVs.load_agg rfl TyOf.h rfl (fun _ => ⟨rfl, a1, rw_live, Nat.le_of_ble_eq_true rfl, rfl⟩) ?_)
    have bl1 := lt_of_at a1
    refine VC.s rfl (RVs.call rfl rfl rfl rfl ⟨rfl, rfl⟩ (toCache _ _ _ (hS.mono (hle p1)) hn) (.inr fun _ _ h => h.elim fun _ hh => hh.2.1) ?_)
    intro v1 H2 fr1
    obtain ⟨vA, rfl, fr1⟩ := fr1
    obtain ⟨g2, F1, w1, nd1, fl1⟩ := fr1
    have lo2 := fun i hi => Nat.le_trans (List.IsPrefix.length_le p1) (fl1 i hi)
    have p2 := p1.trans g2
    have a2 := get_prefix g2 a1
    have bl2 := lt_of_at a2
    have ab1 := fun i hi => Kd.wlt kSeen.slice w1 i hi
    refine VC.s rfl (RVs.call rfl rfl rfl rfl ⟨rfl, rfl⟩ (sCacheWords _ _ _ (slW w1).S hb) (.inr fun _ _ h => h.1) ?_)
    intro v2 H3 fr2
    obtain ⟨g3, F2, w2, nd2, fl2⟩ := fr2
    have lo3 := fun i hi => Nat.le_trans (List.IsPrefix.length_le p2) (fl2 i hi)
    have p3 := p2.trans g3
    have a3 := get_prefix g3 a2
    have w3 := Kd.wgrow kSeen.slice g3 w1
    refine VC.s rfl (RVs.assign rfl rfl (fun _ => rfl) ?_)
    refine VC.nil (k7 ⟨69, [(1, _), (4, _)]⟩ _ ?_)
    refine CWp.seqK fun Kk8 k8 => ?_
    refine CWp.regionW [1, 4, 5] ?_
    refine VC.s rfl (RVs.load_agg rfl TyOf.h rfl (fun _ => ⟨rfl, a3, rw_live, Nat.le_of_ble_eq_true rfl, rfl⟩) ?_)
    have bl3 := lt_of_at a3
    have ab2 := fun i hi => Kd.wlt kSeen.slice w3 i hi
    have ab3 := fun i hi => Kd.wlt Kd.str.slice w2 i hi
    refine VC.s rfl (RVs.call rfl rfl rfl rfl ⟨rfl, rfl⟩ (toCache _ _ _ (hS.mono (hle p3)) hn) (.inr fun _ _ h => h.elim fun _ hh => hh.2.1) ?_)
    intro v3 H4 fr3
    obtain ⟨vB, rfl, fr3⟩ := fr3
    obtain ⟨g4, F3, w4, nd3, fl3⟩ := fr3
    have lo4 := fun i hi => Nat.le_trans (List.IsPrefix.length_le p3) (fl3 i hi)
    have p4 := p3.trans g4
    have a4 := get_prefix g4 a3
    have w5 := Kd.wgrow kSeen.slice g4 w3
    have w6 := Kd.wgrow Kd.str.slice g4 w2
    refine VC.s rfl (RVs.alloc ZeroOf.h TyOf.h rfl rfl ?_)
    intro b2 H5 g5 l2 a5
    have lt1 := Nat.lt_of_lt_of_le (lt_of_at a4) l2
    have lo5 := Nat.le_trans (List.IsPrefix.length_le p4) l2
    have ab4 := fun i hi => Nat.lt_of_lt_of_le (Kd.wlt kSeen.slice w5 i hi) l2
    have ab5 := fun i hi => Nat.lt_of_lt_of_le (Kd.wlt Kd.str.slice w6 i hi) l2
    have ab6 := fun i hi => Nat.lt_of_lt_of_le (Kd.wlt kSeen.slice w4 i hi) l2
    have p5 := p4.trans g5
    have a6 := get_prefix g5 a4
    have w7 := Kd.wgrow kSeen.slice g5 w5
    have w8 := Kd.wgrow Kd.str.slice g5 w6
    have w9 := Kd.wgrow kSeen.slice g5 w4
    refine VC.s rfl (RVs.storeN rfl rfl TyOf.h rfl rfl rfl ⟨rfl, rfl⟩ a5 rfl rfl (Nat.le_of_ble_eq_true rfl) (oc4 w9 _ _ _ rfl rfl rfl) ?_)
    intro H6 u1
    have p6 := u1.prefix p5 lo5
    have a7 := u1.other (Nat.ne_of_lt lt1) a6
    have a8 := u1.at_
    have w10 := Kd.wupd kSeen.slice u1 (fun i hi => Nat.ne_of_lt (ab4 i hi)) w7
    have w11 := Kd.wupd Kd.str.slice u1 (fun i hi => Nat.ne_of_lt (ab5 i hi)) w8
    have w12 := Kd.wupd kSeen.slice u1 (fun i hi => Nat.ne_of_lt (ab6 i hi)) w9
    refine VC.nil (k8 ⟨69, [(1, _), (4, _), (5, _)]⟩ _ ?_)
    refine CWp.seqK fun Kk9 k9 => ?_
    refine CWp.regionW [1, 4, 5, 6] ?_
    refine VC.s rfl (RVs.load_agg rfl TyOf.h rfl (fun _ => ⟨rfl, a8, rw_live, Nat.le_of_ble_eq_true rfl, rfl⟩) ?_)
    have bl4 := lt_of_at a7
    have bl5 := lt_of_at a8
    have ab7 := fun i hi => Kd.wlt kSeen.slice w10 i hi
    have ab8 := fun i hi => Kd.wlt Kd.str.slice w11 i hi
    have ab9 := fun i hi => Kd.wlt kSeen.slice w12 i hi
    refine VC.s rfl (RVs.call rfl rfl rfl rfl ⟨rfl, rfl⟩ (iCacheWords _ _ _ (slW w12).S hb) (.inr fun _ _ h => h.1) ?_)
    intro v4 H7 fr4
    obtain ⟨g6, F4, w13, nd4, fl4⟩ := fr4
    have lo6 := fun i hi => Nat.le_trans (List.IsPrefix.length_le p6) (fl4 i hi)
    have p7 := p6.trans g6
    have a9 := get_prefix g6 a7
    have a10 := get_prefix g6 a8
    have w14 := Kd.wgrow kSeen.slice g6 w10
    have w15 := Kd.wgrow Kd.str.slice g6 w11
    have w16 := Kd.wgrow kSeen.slice g6 w12
    refine VC.s rfl (RVs.assign rfl rfl (fun _ => rfl) ?_)
    refine VC.nil (k9 ⟨69, [(1, _), (4, _), (5, _), (6, _)]⟩ _ ?_)
    refine CWp.seqK fun Kk10 k10 => ?_
    refine CWp.seqK fun Kk11 k11 => ?_
    refine CWp.regionW [1, 4, 5, 6, 26] ?_
    refine VC.s rfl (RVs.move rfl rfl (fun _ => rfl) ?_)
    refine VC.s rfl (RVs.move rfl rfl (fun _ => rfl) ?_)
    refine VC.s rfl (RVs.callp rfl rfl rfl (fun _ => ⟨⟨rfl, rfl⟩, eqStringS _ _ _ _ _ (slW w13).S (slW w15).S⟩) ?_)
    refine VC.s rfl (RVs.not rfl rfl (fun _ => rfl) ?_)
    refine VC.nil (k11 ⟨69, [(1, _), (4, _), (5, _), (6, _), (26, _)]⟩ _ ?_)
    refine CWp.condV rfl (fun hc2 => ?_) (fun hc2 => ?_)
    · simp at hc2
    · try simp at hc2
      refine CWp.skip ?_
      refine k10 _ _ ?_
      refine CWp.seqK fun Kk12 k12 => ?_
      refine CWp.seqK fun Kk13 k13 => ?_
      refine CWp.regionDW [1, 4, 5, 6, 31] [false, false, false, false, false] (by decide +kernel) ?_
      refine VC.s rfl (RVs.load_agg rfl TyOf.h rfl (fun _ => ⟨rfl, a10, rw_live, Nat.le_of_ble_eq_true rfl, rfl⟩) ?_)
      refine VC.s rfl (RVs.load_agg rfl TyOf.h rfl (fun _ => ⟨rfl, a9, rw_live, Nat.le_of_ble_eq_true rfl, rfl⟩) ?_)
      have bl6 := lt_of_at a9
      have bl7 := lt_of_at a10
      have ab10 := fun i hi => Kd.wlt kSeen.slice w14 i hi
      have ab11 := fun i hi => Kd.wlt Kd.str.slice w15 i hi
      have ab12 := fun i hi => Kd.wlt kSeen.slice w16 i hi
      have ab13 := fun i hi => Kd.wlt Kd.str.slice w13 i hi
      refine VC.s rfl (RVs.call rfl rfl rfl rfl ⟨rfl, rfl⟩ (toCache _ _ _ (hS.mono (hle p7)) hn) (.inr fun _ _ h => h.elim fun _ hh => hh.2.1) ?_)
      intro v5 H8 fr5
      obtain ⟨vC, rfl, fr5⟩ := fr5
      obtain ⟨g7, F5, w17, nd5, fl5⟩ := fr5
      have lo7 := fun i hi => Nat.le_trans (List.IsPrefix.length_le p7) (fl5 i hi)
      have p8 := p7.trans g7
      have a11 := get_prefix g7 a9
      have a12 := get_prefix g7 a10
      have w18 := Kd.wgrow kSeen.slice g7 w14
      have w19 := Kd.wgrow Kd.str.slice g7 w15
      have w20 := Kd.wgrow kSeen.slice g7 w16
      have w21 := Kd.wgrow Kd.str.slice g7 w13
      refine VC.s rfl (RVs.callp rfl rfl rfl (fun _ => ⟨⟨rfl, rfl⟩, eqCache _ _ _ _ _ (slW w20).S (slW w17).S⟩) ?_)
      refine VC.s rfl (RVs.not rfl rfl (fun _ => rfl) ?_)
      refine VC.nil (k13 ⟨69, [(1, _), (4, _), (5, _), (6, _), (31, _)]⟩ _ ?_)
      refine CWp.condV rfl (fun hc3 => ?_) (fun hc3 => ?_)
      · simp at hc3
      · try simp at hc3
        refine CWp.skip ?_
        refine k12 _ _ ?_
        refine CWp.seqK fun Kk14 k14 => ?_
        refine CWp.regionW [1, 4, 5, 6, 7] ?_
        refine VC.s rfl (RVs.assign rfl rfl (fun _ => rfl) ?_)
        refine VC.nil (k14 ⟨69, [(1, _), (4, _), (5, _), (6, _), (7, _)]⟩ _ ?_)
        refine CWp.seqK fun Kk15 k15 => ?_
        refine CWp.regionW [1, 4, 6, 7] ?_
        refine VC.s rfl (RVs.load_agg rfl TyOf.h rfl (fun _ => ⟨rfl, a12, rw_live, Nat.le_of_ble_eq_true rfl, rfl⟩) ?_)
        refine VC.s rfl (RVs.move rfl rfl (fun _ => rfl) ?_)
        refine VC.s rfl (RVs.call rfl rfl rfl rfl ⟨rfl, rfl⟩ (markCache _ _ _ _ _ (slW w20) (by decide) (by omega)) (.inl rfl) ?_)
        rintro _ H9 ⟨rfl, ch1, ws1⟩
        have p9 := ch1.prefix p8 lo4
        have a13 := (ch1.2 _ (lt_of_at a11) (fun hm => absurd (Nat.lt_of_lt_of_le bl3 (fl3 _ hm)) (Nat.lt_irrefl _))).trans a11
        have a14 := (ch1.2 _ (lt_of_at a12) (fun hm => absurd (ab6 _ hm) (Nat.lt_irrefl _))).trans a12
        have w22 := Kd.wloc kSeen.slice (fun i hi => ch1.2 i (Kd.wlt kSeen.slice w18 i hi) (fun hm => absurd (Nat.lt_of_lt_of_le (ab2 i hi) (fl3 i hm)) (Nat.lt_irrefl _))) w18
        have w23 := Kd.wloc Kd.str.slice (fun i hi => ch1.2 i (Kd.wlt Kd.str.slice w19 i hi) (fun hm => absurd (Nat.lt_of_lt_of_le (ab3 i hi) (fl3 i hm)) (Nat.lt_irrefl _))) w19
        have w24 := Kd.wloc Kd.str.slice (fun i hi => ch1.2 i (Kd.wlt Kd.str.slice w21 i hi) (fun hm => absurd (Nat.lt_of_lt_of_le (ab9 i hm) (fl4 i hi)) (Nat.lt_irrefl _))) w21
        have w25 := Kd.wloc kSeen.slice (fun i hi => ch1.2 i (Kd.wlt kSeen.slice w17 i hi) (fun hm => absurd (Nat.lt_of_lt_of_le (ab12 i hm) (fl5 i hi)) (Nat.lt_irrefl _))) w17
        refine VC.s rfl (RVs.assign rfl rfl (fun _ => rfl) ?_)
        refine VC.nil (k15 ⟨69, [(1, _), (4, _), (6, _), (7, _)]⟩ _ ?_)
        refine CWp.seqK fun Kk16 k16 => ?_
        refine CWp.seqK fun Kk17 k17 => ?_
        refine CWp.regionW [1, 4, 6, 42] ?_
        refine VC.s rfl (RVs.move rfl rfl (fun _ => rfl) ?_)
        refine VC.s rfl (RVs.bin rfl rfl rfl rfl (fun _ => ⟨⟨rfl, rfl⟩, rfl⟩) ?_)
        refine VC.s rfl (RVs.move rfl rfl (fun _ => rfl) ?_)
        refine VC.s rfl (RVs.move rfl rfl (fun hg => (by first | rfl | exact hg | (simp_all [GF.cond, GF.conds, GF.get, GF.put, AF.toG]))) ?_)
        refine VC.s rfl (RVs.move rfl rfl (fun hg => (by first | rfl | exact hg | (simp_all [GF.cond, GF.conds, GF.get, GF.put, AF.toG]))) ?_)
        refine VC.s rfl (RVs.callp rfl rfl rfl (fun hg => ⟨⟨rfl, (by first | rfl | exact hg | (simp_all [GF.cond, GF.conds, GF.get, GF.put, AF.toG]))⟩, eqStringS _ _ _ _ _ (slW w24).S (slW w23).S⟩) ?_)
        refine VC.s rfl (RVs.not rfl rfl (fun hg => (by first | rfl | exact hg | (simp_all [GF.cond, GF.conds, GF.get, GF.put, AF.toG]))) ?_)
        refine VC.s rfl (RVs.pick rfl rfl rfl rfl (fun hg => ⟨rfl, fun hh => by first | rfl | exact pk_t hh rfl | exact pk_t hh hg, fun hh => by first | rfl | exact pk_f hh rfl | exact pk_f hh hg⟩) ?_)
        refine VC.nil (k17 ⟨69, [(1, _), (4, _), (6, _), (42, _)]⟩ _ ?_)
        refine CWp.condV rfl (fun hc4 => ?_) (fun hc4 => ?_)
        · exact absurd hc4 (by rw [show decide ((1 : Int) + 3 * (x.seens.length : Int) < 0) = false from decide_eq_false (by omega)]; simp)
        · try simp at hc4
          refine CWp.skip ?_
          refine k16 _ _ ?_
          refine CWp.seqK fun Kk18 k18 => ?_
          refine CWp.regionW [1, 4, 6, 8] ?_
          refine VC.s rfl (RVs.assign rfl rfl (fun _ => rfl) ?_)
          refine VC.nil (k18 ⟨69, [(1, _), (4, _), (6, _), (8, _)]⟩ _ ?_)
          refine CWp.seqK fun Kk19 k19 => ?_
          refine CWp.regionW [1, 4, 6, 8] ?_
          refine VC.s rfl (RVs.move rfl rfl (fun _ => rfl) ?_)
          refine VC.s rfl (RVs.move rfl rfl (fun _ => rfl) ?_)
          refine VC.s rfl (RVs.call rfl rfl rfl rfl ⟨rfl, rfl⟩ (markStringS _ _ _ _ _ (slW w24) (by decide) (by omega)) (.inl rfl) ?_)
          rintro _ H10 ⟨rfl, ch2, ws2⟩
          have p10 := ch2.prefix p9 lo6
          have a15 := (ch2.2 _ (lt_of_at a13) (fun hm => absurd (Nat.lt_of_lt_of_le bl4 (fl4 _ hm)) (Nat.lt_irrefl _))).trans a13
          have a16 := (ch2.2 _ (lt_of_at a14) (fun hm => absurd (Nat.lt_of_lt_of_le bl5 (fl4 _ hm)) (Nat.lt_irrefl _))).trans a14
          have w26 := Kd.wloc kSeen.slice (fun i hi => ch2.2 i (Kd.wlt kSeen.slice w22 i hi) (fun hm => absurd (Nat.lt_of_lt_of_le (ab7 i hi) (fl4 i hm)) (Nat.lt_irrefl _))) w22
          have w27 := Kd.wloc Kd.str.slice (fun i hi => ch2.2 i (Kd.wlt Kd.str.slice w23 i hi) (fun hm => absurd (Nat.lt_of_lt_of_le (ab8 i hi) (fl4 i hm)) (Nat.lt_irrefl _))) w23
          have w28 := Kd.wloc kSeen.slice (fun i hi => ch2.2 i (Kd.wlt kSeen.slice (Wsl ws1) i hi) (fun hm => absurd (Nat.lt_of_lt_of_le (ab9 i hi) (fl4 i hm)) (Nat.lt_irrefl _))) (Wsl ws1)
          have w29 := Kd.wloc kSeen.slice (fun i hi => ch2.2 i (Kd.wlt kSeen.slice w25 i hi) (fun hm => absurd (Nat.lt_of_lt_of_le (ab13 i hm) (fl5 i hi)) (Nat.lt_irrefl _))) w25
          refine VC.s rfl (RVs.assign rfl rfl (fun _ => rfl) ?_)
          refine VC.nil (k19 ⟨69, [(1, _), (4, _), (6, _), (8, _)]⟩ _ ?_)
          refine CWp.seqK fun Kk20 k20 => ?_
          refine CWp.regionW [1, 4, 6, 8, 9] ?_
          refine VC.s rfl (RVs.assign rfl rfl (fun _ => rfl) ?_)
          refine VC.nil (k20 ⟨69, [(1, _), (4, _), (6, _), (8, _), (9, _)]⟩ _ ?_)
          refine CWp.seqK fun Kk21 k21 => ?_
          refine CWp.regionW [1, 4, 6, 8, 9] ?_
          refine VC.s rfl (RVs.move rfl rfl (fun _ => rfl) ?_)
          refine VC.s rfl (RVs.move rfl rfl (fun _ => rfl) ?_)
          refine VC.s rfl (RVs.callp rfl rfl rfl (fun _ => ⟨⟨rfl, rfl⟩, heldStringS _ _ _ _ (slW (Wsl ws2)).S (by simp [marksT]) (by decide) (by simp [marksT]; omega)⟩) ?_)
          refine VC.s rfl (RVs.assign rfl rfl (fun _ => rfl) ?_)
          refine VC.nil (k21 ⟨69, [(1, _), (4, _), (6, _), (8, _), (9, _)]⟩ _ ?_)
          refine CWp.seqK fun Kk22 k22 => ?_
          refine CWp.seqK fun Kk23 k23 => ?_
          refine CWp.regionW [1, 4, 6, 8, 9, 50] ?_
          refine VC.s rfl (RVs.move rfl rfl (fun _ => rfl) ?_)
          refine VC.s rfl (RVs.bin rfl rfl rfl rfl (fun _ => ⟨⟨rfl, rfl⟩, rfl⟩) ?_)
          refine VC.nil (k23 ⟨69, [(1, _), (4, _), (6, _), (8, _), (9, _), (50, _)]⟩ _ ?_)
          refine CWp.condV rfl (fun hc5 => ?_) (fun hc5 => ?_)
          · exact absurd (of_decide_eq_true hc5) (by omega)
          · try simp at hc5
            refine CWp.skip ?_
            refine k22 _ _ ?_
            refine CWp.seqK fun Kk24 k24 => ?_
            refine CWp.seqK fun Kk25 k25 => ?_
            refine CWp.regionW [1, 4, 6, 8, 53] ?_
            refine VC.s rfl (RVs.move rfl rfl (fun _ => rfl) ?_)
            refine VC.s rfl (RVs.move rfl rfl (fun _ => rfl) ?_)
            refine VC.s rfl (RVs.bin rfl rfl rfl rfl (fun _ => ⟨⟨rfl, rfl⟩, rfl⟩) ?_)
            refine VC.nil (k25 ⟨69, [(1, _), (4, _), (6, _), (8, _), (53, _)]⟩ _ ?_)
            refine CWp.condV rfl (fun hc6 => ?_) (fun hc6 => ?_)
            · simp [marksT] at hc6
            · try simp at hc6
              refine CWp.skip ?_
              refine k24 _ _ ?_
              refine CWp.seqK fun Kk26 k26 => ?_
              refine CWp.regionW [4, 6, 8, 10] ?_
              refine VC.s rfl (RVs.load_agg rfl TyOf.h rfl (fun _ => ⟨rfl, a15, rw_live, Nat.le_of_ble_eq_true rfl, rfl⟩) ?_)
              have bl8 := lt_of_at a15
              have bl9 := lt_of_at a16
              have ab14 := fun i hi => Kd.wlt kSeen.slice w26 i hi
              have ab15 := fun i hi => Kd.wlt Kd.str.slice w27 i hi
              have ab16 := fun i hi => Kd.wlt kSeen.slice w28 i hi
              have ab17 := fun i hi => Kd.wlt Kd.str.slice (Wsl ws2) i hi
              have ab18 := fun i hi => Kd.wlt kSeen.slice w29 i hi
              refine VC.s rfl (RVs.call rfl rfl rfl rfl ⟨rfl, rfl⟩ (toCache _ _ _ (hS.mono (hle p10)) hn) (.inr fun _ _ h => h.elim fun _ hh => hh.2.1) ?_)
              intro v6 H11 fr6
              obtain ⟨vD, rfl, fr6⟩ := fr6
              obtain ⟨g8, F6, w30, nd6, fl6⟩ := fr6
              have lo8 := fun i hi => Nat.le_trans (List.IsPrefix.length_le p10) (fl6 i hi)
              have p11 := p10.trans g8
              have a17 := get_prefix g8 a15
              have a18 := get_prefix g8 a16
              have w31 := Kd.wgrow kSeen.slice g8 w26
              have w32 := Kd.wgrow Kd.str.slice g8 w27
              have w33 := Kd.wgrow kSeen.slice g8 w28
              have w34 := Kd.wgrow Kd.str.slice g8 (Wsl ws2)
              have w35 := Kd.wgrow kSeen.slice g8 w29
              have bl10 := lt_of_at a17
              have bl11 := lt_of_at a18
              have ab19 := fun i hi => Kd.wlt kSeen.slice w31 i hi
              have ab20 := fun i hi => Kd.wlt Kd.str.slice w32 i hi
              have ab21 := fun i hi => Kd.wlt kSeen.slice w33 i hi
              have ab22 := fun i hi => Kd.wlt Kd.str.slice w34 i hi
              have ab23 := fun i hi => Kd.wlt kSeen.slice w35 i hi
              have ab24 := fun i hi => Kd.wlt kSeen.slice w30 i hi
              refine VC.s rfl (RVs.call rfl rfl rfl rfl ⟨rfl, rfl⟩ (iCacheWords _ _ _ (slW w30).S hb) (.inr fun _ _ h => h.1) ?_)
              intro v7 H12 fr7
              obtain ⟨g9, F7, w36, nd7, fl7⟩ := fr7
              have lo9 := fun i hi => Nat.le_trans (List.IsPrefix.length_le p11) (fl7 i hi)
              have p12 := p11.trans g9
              have a19 := get_prefix g9 a17
              have a20 := get_prefix g9 a18
              have w37 := Kd.wgrow kSeen.slice g9 w31
              have w38 := Kd.wgrow Kd.str.slice g9 w32
              have w39 := Kd.wgrow kSeen.slice g9 w33
              have w40 := Kd.wgrow Kd.str.slice g9 w34
              have w41 := Kd.wgrow kSeen.slice g9 w35
              have w42 := Kd.wgrow kSeen.slice g9 w30
              refine VC.s rfl (RVs.assign rfl rfl (fun _ => rfl) ?_)
              refine VC.nil (k26 ⟨69, [(4, _), (6, _), (8, _), (10, _)]⟩ _ ?_)
              refine CWp.seqK fun Kk27 k27 => ?_
              refine CWp.seqK fun Kk28 k28 => ?_
              refine CWp.regionW [6, 8, 60] ?_
              refine VC.s rfl (RVs.move rfl rfl (fun _ => rfl) ?_)
              refine VC.s rfl (RVs.move rfl rfl (fun _ => rfl) ?_)
              refine VC.s rfl (RVs.callp rfl rfl rfl (fun _ => ⟨⟨rfl, rfl⟩, eqStringS _ _ _ _ _ (slW w36).S (slW w38).S⟩) ?_)
              refine VC.s rfl (RVs.not rfl rfl (fun _ => rfl) ?_)
              refine VC.nil (k28 ⟨69, [(6, _), (8, _), (60, _)]⟩ _ ?_)
              refine CWp.condV rfl (fun hc7 => ?_) (fun hc7 => ?_)
              · simp at hc7
              · try simp at hc7
                refine CWp.skip ?_
                refine k27 _ _ ?_
                refine CWp.seqK fun Kk29 k29 => ?_
                refine CWp.regionW [6, 8, 9] ?_
                refine VC.s rfl (RVs.assign rfl rfl (fun _ => rfl) ?_)
                refine VC.nil (k29 ⟨69, [(6, _), (8, _), (9, _)]⟩ _ ?_)
                refine CWp.seqK fun Kk30 k30 => ?_
                refine CWp.regionW [8, 9] ?_
                refine VC.s rfl (RVs.move rfl rfl (fun _ => rfl) ?_)
                refine VC.s rfl (RVs.move rfl rfl (fun _ => rfl) ?_)
                refine VC.s rfl (RVs.callp rfl rfl rfl (fun _ => ⟨⟨rfl, rfl⟩, heldStringS _ _ _ _ (slW w40).S (by simp [marksT]) (by decide) (by simp [marksT]; omega)⟩) ?_)
                refine VC.s rfl (RVs.assign rfl rfl (fun _ => rfl) ?_)
                refine VC.nil (k30 ⟨69, [(8, _), (9, _)]⟩ _ ?_)
                refine CWp.seqK fun Kk31 k31 => ?_
                refine CWp.seqK fun Kk32 k32 => ?_
                refine CWp.regionW [8, 9, 65] ?_
                refine VC.s rfl (RVs.move rfl rfl (fun _ => rfl) ?_)
                refine VC.s rfl (RVs.bin rfl rfl rfl rfl (fun _ => ⟨⟨rfl, rfl⟩, rfl⟩) ?_)
                refine VC.nil (k32 ⟨69, [(8, _), (9, _), (65, _)]⟩ _ ?_)
                refine CWp.condV rfl (fun hc8 => ?_) (fun hc8 => ?_)
                · exact absurd (of_decide_eq_true hc8) (by omega)
                · try simp at hc8
                  refine CWp.skip ?_
                  refine k31 _ _ ?_
                  refine CWp.seqK fun Kk33 k33 => ?_
                  refine CWp.seqK fun Kk34 k34 => ?_
                  refine CWp.regionW [68] ?_
                  refine VC.s rfl (RVs.move rfl rfl (fun _ => rfl) ?_)
                  refine VC.s rfl (RVs.move rfl rfl (fun _ => rfl) ?_)
                  refine VC.s rfl (RVs.bin rfl rfl rfl rfl (fun _ => ⟨⟨rfl, rfl⟩, rfl⟩) ?_)
                  refine VC.nil (k34 ⟨69, [(68, _)]⟩ _ ?_)
                  refine CWp.condV rfl (fun hc9 => ?_) (fun hc9 => ?_)
                  · simp [marksT] at hc9
                  · try simp at hc9
                    refine CWp.skip ?_
                    refine k33 _ _ ?_
                    refine CWp.seqK fun Kk35 k35 => ?_
                    refine CWp.regionW [2] ?_
                    refine VC.s rfl (RVs.assign rfl rfl (fun _ => rfl) ?_)
                    refine VC.nil (k35 ⟨69, [(2, _)]⟩ _ ?_)
                    refine CWp.ret (q _ _ _ (.cons (.tmp rfl) .nil) ?_).1
                    rfl

end Go.Proofs.YtohfajiimbchhaaDoor
