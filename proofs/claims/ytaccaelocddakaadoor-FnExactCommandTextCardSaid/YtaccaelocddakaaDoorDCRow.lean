/- What the law FnExactCommandText reads, told by kinds; the law, called on it, answers true. -/
import Derived.Test.YtaccaelocddakaaDoorDC3
import Derived.Test.YtaccaelocddakaaDoorW
import Derived.KernelRfl
namespace Go.Proofs.YtaccaelocddakaaDoor
open Go Go.RowKit
set_option linter.unusedVariables false
set_option maxRecDepth 20000

section
variable [MLen]
theorem conv_String : Conv Tryd.prog 9 Kd.str (fun _ => True) := Conv.str UnStr.h
end
/-- The block of a cell. -/
theorem cell_heap {W : World} {g : Nat} {v : Value} (h : W.cell? ⟨g, 0, none⟩ = some v) : ∃ c el fr, W.heap[g]? = some (.cells c el fr) ∧ c.toList[0]? = some v := by
  unfold World.cell? at h
  generalize hb : W.heap[g]? = o at h
  match o, h with
  | some (.cells c el fr), h => exact ⟨c, el, fr, rfl, by simpa using h⟩
/-- The law answers true, whatever is read. -/
theorem run {E : Type} {enc : TypeId × Value → E} {W : World} {d0 : DataW E} {p0 : List MemPlace} {v0 : Value} (hv0 : ∃ a n c, v0 = .slice a n c) (h0 : DataW.Trod enc Tryd.prog W 0 (fun _ => true) true 35 v0 d0 p0)
    (ht : ∃ c el fr, W.heap[1]? = some (.cells c el fr) ∧ c.toList = Lib.pow10Tab.map fun z => Value.int .u64 z)
    (hm : ∃ m, W.cell? ⟨0, 0, none⟩ = some (.int .i64 m)) :
    Calls Tryd.prog 4 #[v0] W fun e w' => e = .returned (.bool true) ∧ Below W.heap.size W w' := by
  obtain ⟨m, hm⟩ := hm
  obtain ⟨c0, el0, fr0, hc0, hw0⟩ := cell_heap hm
  letI : MLen := ⟨m, c0.toList, hw0⟩
  have hs : Seen0 (fun _ => none) [] W := Seen0.start fun g vs hg => by
    simp only [Tabs.vals] at hg
    split at hg
    · rename_i e; subst e; cases hg; exact ht
    · split at hg
      · rename_i e; subst e; cases hg; exact ⟨c0, el0, fr0, hc0, rfl⟩
      · cases hg
  obtain ⟨fuel0, k0⟩ := h0
  obtain ⟨va0, vn0, vc0, rfl⟩ := hv0
  obtain ⟨ψ0, H0, us0, x0, le0, pr0, q3_0, q4_0, ⟨y0, rfl, hS0⟩, _⟩ := (Conv.slice Tryd.underlying35 (by kernel_rfl) (by decide) conv_String) E enc W fuel0 _ d0 p0 k0 _ _ hs
  have w0 := q4_0
  have z0 : VR ψ0 y0 (.slice va0 vn0 vc0) := by cases w0 with | cons a b => exact a
  exact law_calls q3_0 (.cons z0 .nil) (law y0 x0 H0 hS0)
end Go.Proofs.YtaccaelocddakaaDoor
