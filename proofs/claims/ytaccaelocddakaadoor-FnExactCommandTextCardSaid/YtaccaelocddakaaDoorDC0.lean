/- What strconv.Itoa, strings.Join, Split, CutPrefix, CutSuffix and IndexByte answer: the shelf contracts, in the words of the walks. -/
import Derived.Test.YtaccaelocddakaaDoorDFacts
import Derived.Test.YtaccaelocddakaaDoorAJ
import Derived.Test.YtaccaelocddakaaDoorShelf
namespace Go.Proofs.YtaccaelocddakaaDoor
open Go Go.RowKit
set_option linter.unusedVariables false
set_option maxRecDepth 20000

variable [MLen]
/-- The package-level tables that are read. -/
instance tabs : Tabs := ⟨fun g => if g = 1 then some (Lib.pow10Tab.map fun z => Value.int .u64 z) else if g = 0 then some MLen.vs else none⟩

theorem dec_digs (n : Nat) (h : 0 < n) : Lib.decDigits n = digs n := by
  induction n using Nat.strongRecOn with
  | _ n ih =>
    rw [digs_pos h, Lib.decDigits]
    split
    · rename_i g
      rw [show n / 10 = 0 by omega, digs_zero, Nat.mod_eq_of_lt g]; rfl
    · rw [ih (n / 10) (by omega) (by omega)]
theorem itoa_decL (k : Int) : Lib.itoa k = decL k := by
  unfold Lib.itoa decL
  by_cases h0 : k = 0
  · subst h0; rw [if_pos rfl, if_neg (by decide)]; rw [Lib.decDigits]; rfl
  · rw [if_neg h0]
    split
    · rw [dec_digs _ (by omega)]
    · rw [dec_digs _ (by omega), show k.natAbs = k.toNat by omega]

theorem itoa (k : Int) (H : AH) (h0 : 0 ≤ k) (hk : k ≤ lim) : FWp Tryd.prog 45 [.int .i64 k] H (fun v' H' => v' = .string (bs (decL k)) ∧ H' = H) := by
  refine ⟨⟨Tryd.f45, _, Tryd.func45, rfl, by decide +kernel⟩, _, _, ⟨rfl, rfl⟩, AEval.of_below (by simp [PlainV]) trivial fun w hw => ?_⟩
  obtain ⟨c, el, fr, g1, g2⟩ := hw 1 _ rfl
  have htab : Lib.TabIs Tryd.prog w "internal/strconv.uint64pow10" .u64 Lib.pow10Tab := by
    unfold Lib.TabIs World.var?
    rw [show Tryd.prog.globalNamed "internal/strconv.uint64pow10" = some 1 by kernel_rfl]
    simp only [Option.bind_some, g1]
    rw [← g2]
  unfold lim at hk
  refine (Tryd.strconv_Itoa k (by omega) (by omega) w htab).mono ?_
  rintro e w' ⟨rfl, n, os, rfl⟩
  refine ⟨by rw [itoa_decL]; rfl, rfl, rfl, rfl, ?_, fun b hb => ?_⟩
  · simp [Go.Sort.grow, World.drewN]
  · simp only [Go.Sort.grow, World.drewN]
    exact Array.getElem?_append_left hb

theorem joinS (v : Value) (xs : List (List UInt8)) (sep : List UInt8) (H : AH) (hS : Kd.str.S H v xs) (hn : xs.length ≤ 140737488355328) (hl : (Lib.join xs sep).length ≤ 140737488355328) : FWp Tryd.prog 31 [v, .string (bs sep)] H (fun v' H' => v' = .string (bs (Lib.join xs sep)) ∧ H' = H) := by
  refine ⟨⟨Tryd.f31, _, Tryd.func31, rfl, by decide +kernel⟩, _, _, ⟨rfl, rfl⟩, AEval.of_strs (xs := xs) (by simp [PlainV]) trivial hS ?_ ?_⟩
  · rintro rfl w a c _
    refine (Tryd.strings_Join_none a c (bs sep) w).mono ?_
    rintro e w' ⟨rfl, rfl⟩
    exact ⟨by simp [Lib.join_nil, bs], rfl, rfl, rfl, Nat.le_refl _, fun b hb => rfl⟩
  · intro w b o c _ hc hb hcells
    have e0 : (xs.map bs).map (·.data.toList) = xs := by rw [List.map_map]; simp [Function.comp_def, bs]
    have e1 : (bs sep).data.toList = sep := by simp [bs]
    have := Tryd.strings_Join b o c (xs.map bs) (bs sep) w (fun j x hx => by
      rw [List.getElem?_map] at hx
      simp only [Option.map_eq_some_iff] at hx
      obtain ⟨y, h1, rfl⟩ := hx
      exact hcells j y h1) hb (by simpa using hn) (by simpa using hc) (by rw [e0, e1]; exact hl)
    rw [List.length_map, e0, e1] at this
    refine this.mono ?_
    rintro e w' ⟨rfl, bel⟩
    exact ⟨rfl, bel⟩

theorem indexByte (s : List UInt8) (c : UInt8) (H : AH) : FWp Tryd.prog 72 [.string (bs s), .int .u8 (c.toNat : Int)] H (fun v' H' => v' = .int .i64 (Lib.indexByte s c) ∧ H' = H) := by
  refine ⟨⟨Tryd.f72, _, Tryd.func72, rfl, by decide +kernel⟩, _, _, ⟨rfl, rfl⟩, AEval.of_below (by simp [PlainV]) trivial fun w hw => ?_⟩
  refine (Tryd.strings_IndexByte (bs s) (c.toNat : Int) w).mono ?_
  rintro e w' ⟨rfl, rfl⟩
  exact ⟨by simp [bs], rfl, rfl, rfl, Nat.le_refl _, fun b hb => rfl⟩

theorem cutPrefix (s p : List UInt8) (H : AH) : FWp Tryd.prog 67 [.string (bs s), .string (bs p)] H (fun v' H' => v' = .tuple #[.string (bs (Lib.trimPrefix s p)), .bool (Lib.hasPrefix s p)] ∧ H' = H) := by
  refine ⟨⟨Tryd.f67, _, Tryd.func67, rfl, by decide +kernel⟩, _, _, ⟨rfl, rfl⟩, AEval.of_pair (by simp [PlainV]) trivial trivial fun w hw => ?_⟩
  refine (Tryd.strings_CutPrefix (bs s) (bs p) w).mono ?_
  rintro e w' ⟨rfl, rfl⟩
  exact ⟨by simp [bs], rfl, rfl, rfl, Nat.le_refl _, fun b hb => rfl⟩

theorem cutSuffix (s p : List UInt8) (H : AH) (hs : s.length ≤ lim) : FWp Tryd.prog 68 [.string (bs s), .string (bs p)] H (fun v' H' => v' = .tuple #[.string (bs (Lib.trimSuffix s p)), .bool (Lib.hasSuffix s p)] ∧ H' = H) := by
  refine ⟨⟨Tryd.f68, _, Tryd.func68, rfl, by decide +kernel⟩, _, _, ⟨rfl, rfl⟩, AEval.of_pair (by simp [PlainV]) trivial trivial fun w hw => ?_⟩
  refine (Tryd.strings_CutSuffix (bs s) (bs p) w (by unfold lim at hs; simpa [bs, ByteArray.size] using hs)).mono ?_
  rintro e w' ⟨rfl, rfl⟩
  exact ⟨by simp [bs], rfl, rfl, rfl, Nat.le_refl _, fun b hb => rfl⟩

theorem splitS (s : List UInt8) (H : AH) (hs : s.length < 4294967281) : FWp Tryd.prog 69 [.string (bs s), .string (bs [32])] H (fun v' H' => ∃ a c, v' = .slice a (splitB s).length c ∧ FreshP (pVal Kd.str.slice [.slice a (splitB s).length c] (splitB s)) H H') := by
  have hl : (splitB s).length ≤ lim := by have := splitB_len s; unfold lim; omega
  have hn : ((splitB s).map fun l => Value.string (bs l)).length = (splitB s).length := List.length_map ..
  have at_ : (H ++ [⟨9, 1, (splitB s).map fun l => Value.string (bs l), .rw⟩])[H.length]? = some ⟨9, 1, (splitB s).map fun l => Value.string (bs l), .rw⟩ := by simp
  have hr : Kd.str.Rs (H ++ [⟨9, 1, (splitB s).map fun l => Value.string (bs l), .rw⟩]) ((splitB s).map fun l => Value.string (bs l)) (splitB s) := strs_Rs _ fun w hw => by have := splitB_lens s w hw; unfold lim; omega
  have sp := Sep.addO (k := Kd.str) (e := 9) str_Flat (Sep.nil (H := H)) (List.prefix_append H _) (Nat.le_refl _) at_ hr rfl hl
  refine ⟨⟨Tryd.f69, _, Tryd.func69, rfl, by decide +kernel⟩, _, _, ⟨_, _, rfl, FreshP.slice (Sep.fresh (i := 0) sp rfl)⟩, ?_⟩
  have := AEval.of_alloc (P := Tryd.prog) (k := 69) (args := [.string (bs s), .string (bs [32])]) (H := H) (cs := (splitB s).map fun l => Value.string (bs l)) (el := 9) (by simp [PlainV]) (by simp [plainCell]) fun w hw => ?_
  · rw [hn] at this; exact this
  · obtain ⟨c, el, fr, g1, g2⟩ := hw 0 _ rfl
    have hm : w.cell? ⟨0, 0, none⟩ = some (.int .i64 MLen.m) := by
      rw [cell_of g1]; have := MLen.h; rw [← g2] at this; simpa using this
    refine (Tryd.strings_Split (bs s) (bs [32]) MLen.m w (by simpa [bs, ByteArray.size] using hs) hm (by decide)).mono ?_
    rintro e w' ⟨rfl, rfl⟩
    rw [hn, splitB_count, splitB_cells]
    exact ⟨rfl, rfl⟩

end Go.Proofs.YtaccaelocddakaaDoor
