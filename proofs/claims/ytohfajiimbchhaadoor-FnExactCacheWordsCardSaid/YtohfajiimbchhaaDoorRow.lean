/- A part of the proof: no conditions. -/
import Derived.Test.YtohfajiimbchhaaDoorW
import Derived.Test.YtohfajiimbchhaaDoorT10
import Derived.KernelRfl
namespace Go.Proofs.YtohfajiimbchhaaDoor
open Go Go.RowKit
set_option linter.unusedVariables false
set_option maxRecDepth 20000

theorem conv_int : Conv Tryd.prog 3 (Kd.int .i64) (fun n => (Lit.int .i64 n).wf = true) := Conv.int UnInt.h
theorem conv_str : Conv Tryd.prog 9 Kd.str (fun _ => True) := Conv.str UnStr.h
theorem conv_seen : Conv Tryd.prog 51 kSeen (fun _ => True) :=
  Conv.map (Conv.struct Tryd.underlying51 (by kernel_rfl) (.cons conv_int rfl (by kernel_rfl) (.cons conv_int rfl (by kernel_rfl) (.last conv_int rfl (by kernel_rfl))))) (fun x => ⟨x.1, x.2.1, x.2.2⟩)
    (fun H us x h _ => by
      obtain ⟨u1, u2, rfl, rfl, u3, u4, rfl, rfl, rfl⟩ := h
      exact ⟨⟨rfl, trivial⟩, trivial⟩)
theorem conv_cache : Conv Tryd.prog 24 kCache (fun _ => True) :=
  Conv.map (Conv.struct Tryd.underlying24 (by kernel_rfl) (.cons conv_str rfl (by kernel_rfl) (.cons conv_int rfl (by kernel_rfl) (.cons conv_int rfl (by kernel_rfl) (.last (Conv.slice Tryd.underlying22 (by kernel_rfl) (by decide) conv_seen) rfl (by kernel_rfl))))))
    (fun x => ⟨x.1, x.2.1, x.2.2.1, x.2.2.2⟩)
    (fun H us x h _ => by
      obtain ⟨u1, u2, rfl, ⟨rfl, hb⟩, u3, u4, rfl, rfl, u5, u6, rfl, rfl, v, rfl, hv⟩ := h
      exact ⟨⟨v, rfl, hv, hb⟩, trivial⟩)

/-- The law answers true, whatever is read. -/
theorem run {E : Type} {enc : TypeId × Value → E} {W : World} {v0 : Value} {cs : Array Value} {d : DataW E} {p : List MemPlace} (hv : v0 = .agg cs) (h0 : DataW.Trod enc Tryd.prog W 0 (fun _ => true) true 24 v0 d p)
    (ht : ∃ c el fr, W.heap[0]? = some (.cells c el fr) ∧ c.toList = Lib.pow10Tab.map fun z => Value.int .u64 z) :
    Calls Tryd.prog 3 #[v0] W fun e w' => e = .returned (.bool true) ∧ Below W.heap.size W w' := by
  obtain ⟨fuel, h⟩ := h0
  have hs : Seen0 (fun _ => none) [] W := Seen0.start fun g vs hg => by
    simp only [Tabs.vals] at hg
    split at hg
    · rename_i e; subst e; cases hg; exact ht
    · cases hg
  obtain ⟨ψ, H, us, x, _, _, q3, q4, ⟨v, rfl, hS, hb⟩, _⟩ := conv_cache E enc W fuel _ d p h _ _ hs
  subst hv
  exact law_calls q3 (.cons (.agg q4) .nil) (law x v H hS hb)
end Go.Proofs.YtohfajiimbchhaaDoor
