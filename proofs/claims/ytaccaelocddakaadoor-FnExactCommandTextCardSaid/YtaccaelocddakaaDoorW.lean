/- A part of the proof: no conditions. -/
import Derived.Test.YtaccaelocddakaaDoorN
import Derived.Test.YtaccaelocddakaaDoorY
namespace Go.Proofs.YtaccaelocddakaaDoor
open Go Go.RowKit
set_option linter.unusedVariables false
set_option linter.unusedSectionVars false
variable [Tabs]

theorem Conv.map {P : Program} {t : TypeId} {α β : Type} {k : Kd α} {k' : Kd β} {wf : α → Prop} {wf' : β → Prop} (h : Conv P t k wf) (f : α → β) (hR : ∀ H us x, k.R H us x → wf x → k'.R H us (f x) ∧ wf' (f x)) : Conv P t k' wf' := by
  intro E enc w fuel cs d ps h' ψ H hs
  obtain ⟨ψ', H', us, x, q1, q2, q3, q4, q5, q6⟩ := h E enc w fuel cs d ps h' ψ H hs
  obtain ⟨r1, r2⟩ := hR H' us x q5 q6
  exact ⟨ψ', H', us, f x, q1, q2, q3, q4, r1, r2⟩

/-- The start: nothing is told of memory but the fixed tables. -/
theorem Seen0.start {w : World} (h : ∀ g vs, Tabs.vals g = some vs → ∃ c el fr, w.heap[g]? = some (.cells c el fr) ∧ c.toList = vs) : Seen0 (fun _ => none) [] w :=
  ⟨⟨fun _ _ e => (by cases e), fun _ _ _ e => (by cases e), fun _ _ _ _ _ e => (by cases e), fun g vs hv => ⟨h g vs hv, fun ⟨_, _, _, e, _⟩ => (by cases e)⟩, ⟨0, fun _ _ => rfl⟩⟩, fun _ _ _ e => (by cases e), fun _ _ => rfl⟩

/-- A law that is walked, called on what is read: it answers true, and leaves all old memory. -/
theorem law_calls {P : Program} {f : FuncId} {us : List Value} {args : Array Value} {ψ : Emb} {H : AH} {W : World} (hs : Seen0 ψ H W) (ha : VRs ψ us args.toList) (h : FWp P f us H (fun v' H' => v' = .bool true)) :
    Calls P f args W fun e w' => e = .returned (.bool true) ∧ Below W.heap.size W w' := by
  obtain ⟨_, v, H', rfl, hl, hE⟩ := h
  refine (hE ψ W args hs.wr ha fun id a _ => hs.free id a).mono ?_
  rintro e w' ⟨v', ψ', rfl, hv, st⟩
  rw [hv.bool_inv]
  exact ⟨rfl, st.os, st.tape, st.output, st.size, fun b hb => st.keep b hb (hs.cold.hot b)⟩
end Go.Proofs.YtaccaelocddakaaDoor
