/- A part of the proof: no conditions. -/
import Derived.Test.YtohfajiimbchhaaDoorFacts
import Derived.Test.YtohfajiimbchhaaDoorShelf
namespace Go.Proofs.YtohfajiimbchhaaDoor
open Go Go.RowKit
set_option linter.unusedVariables false

/-- The one package-level table that is read. -/
instance tabs : Tabs := ⟨fun g => if g = 0 then some (Lib.pow10Tab.map fun z => Value.int .u64 z) else none⟩

theorem dec_digs (n : Nat) (h : 0 < n) : Lib.decDigits n = digs n := by
  induction n using Nat.strongRecOn with
  | _ n ih =>
    rw [digs_pos h, Lib.decDigits]
    split
    · rename_i g
      rw [show n / 10 = 0 by omega, digs_zero, Nat.mod_eq_of_lt g]; rfl
    · rw [ih (n / 10) (by omega) (by omega)]
theorem itoa_decL (k : Int) : Lib.itoa k = decL k := by
  unfold Lib.itoa decL
  by_cases h0 : k = 0
  · subst h0; rw [if_pos rfl, if_neg (by decide)]; rw [Lib.decDigits]; rfl
  · rw [if_neg h0]
    split
    · rw [dec_digs _ (by omega)]
    · rw [dec_digs _ (by omega), show k.natAbs = k.toNat by omega]

theorem itoa (k : Int) (H : AH) (h0 : 0 ≤ k) (hk : k ≤ lim) : FWp Tryd.prog 31 [.int .i64 k] H (fun v' H' => v' = .string (bs (decL k)) ∧ H' = H) := by
  refine ⟨⟨Tryd.f31, _, Tryd.func31, rfl, by decide +kernel⟩, _, _, ⟨rfl, rfl⟩, AEval.of_below (by simp [PlainV]) trivial fun w hw => ?_⟩
  obtain ⟨c, el, fr, g1, g2⟩ := hw 0 _ rfl
  have htab : Lib.TabIs Tryd.prog w "internal/strconv.uint64pow10" .u64 Lib.pow10Tab := by
    unfold Lib.TabIs World.var?
    rw [show Tryd.prog.globalNamed "internal/strconv.uint64pow10" = some 0 by kernel_rfl]
    simp only [Option.bind_some, g1]
    rw [← g2]
  unfold lim at hk
  refine (Tryd.strconv_Itoa k (by omega) (by omega) w htab).mono ?_
  rintro e w' ⟨rfl, n, os, rfl⟩
  refine ⟨by rw [itoa_decL]; rfl, rfl, rfl, rfl, ?_, fun b hb => ?_⟩
  · simp [Go.Sort.grow, World.drewN]
  · simp only [Go.Sort.grow, World.drewN]
    exact Array.getElem?_append_left hb
end Go.Proofs.YtohfajiimbchhaaDoor
