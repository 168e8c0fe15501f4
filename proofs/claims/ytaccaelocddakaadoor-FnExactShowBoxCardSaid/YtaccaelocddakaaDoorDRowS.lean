/- What the law FnExactShowBox reads, told by kinds; the law, called on it, answers true. -/
import Derived.Test.YtaccaelocddakaaDoorDT6
import Derived.Test.YtaccaelocddakaaDoorW
import Derived.KernelRfl
namespace Go.Proofs.YtaccaelocddakaaDoor
open Go Go.RowKit
set_option linter.unusedVariables false
set_option maxRecDepth 20000

theorem conv_String : Conv Tryd.prog 9 Kd.str (fun _ => True) := Conv.str UnStr.h
theorem conv_Int : Conv Tryd.prog 3 kInt (fun n => (Lit.int .i64 n).wf = true) := Conv.int UnInt.h
theorem conv_Mail : Conv Tryd.prog 56 kMail (fun _ => True) :=
  Conv.map (Conv.struct Tryd.underlying56 (by kernel_rfl) (.cons conv_Int rfl (by kernel_rfl) (.cons conv_Int rfl (by kernel_rfl) (.cons conv_Int rfl (by kernel_rfl) (.last conv_String rfl (by kernel_rfl)))))) (fun x => ⟨x.1, x.2.1, x.2.2.1, x.2.2.2⟩)
    (fun H us x h _ => by
      obtain ⟨u0, u1, rfl, rfl, u2, u3, rfl, rfl, u4, u5, rfl, rfl, ⟨rfl, hb_text⟩⟩ := h
      exact ⟨⟨rfl, hb_text⟩, trivial⟩)
theorem conv_Tomb : Conv Tryd.prog 67 kTomb (fun _ => True) :=
  Conv.map (Conv.struct Tryd.underlying67 (by kernel_rfl) (.cons conv_Int rfl (by kernel_rfl) (.last conv_Int rfl (by kernel_rfl)))) (fun x => ⟨x.1, x.2⟩)
    (fun H us x h _ => by
      obtain ⟨u0, u1, rfl, rfl, rfl⟩ := h
      exact ⟨⟨rfl, trivial⟩, trivial⟩)
theorem conv_Box : Conv Tryd.prog 25 kBox (fun _ => True) :=
  Conv.map (Conv.struct Tryd.underlying25 (by kernel_rfl) (.cons conv_String rfl (by kernel_rfl) (.cons conv_Int rfl (by kernel_rfl) (.cons conv_Int rfl (by kernel_rfl) (.cons conv_Int rfl (by kernel_rfl) (.cons (Conv.slice Tryd.underlying22 (by kernel_rfl) (by decide) conv_Mail) rfl (by kernel_rfl) (.cons (Conv.slice Tryd.underlying23 (by kernel_rfl) (by decide) conv_Tomb) rfl (by kernel_rfl) (.last conv_Int rfl (by kernel_rfl))))))))) (fun x => ⟨x.1, x.2.1, x.2.2.1, x.2.2.2.1, x.2.2.2.2.1, x.2.2.2.2.2.1, x.2.2.2.2.2.2⟩)
    (fun H us x h _ => by
      obtain ⟨u0, u1, rfl, ⟨rfl, hb_name⟩, u2, u3, rfl, rfl, u4, u5, rfl, rfl, u6, u7, rfl, rfl, u8, u9, rfl, ⟨v_mails, rfl, hv_mails⟩, u10, u11, rfl, ⟨v_tombs, rfl, hv_tombs⟩, rfl⟩ := h
      exact ⟨⟨v_mails, v_tombs, rfl, hv_mails, hv_tombs, hb_name⟩, trivial⟩)
/-- The law answers true, whatever is read. -/
theorem run {E : Type} {enc : TypeId × Value → E} {W : World} {d0 : DataW E} {p0 : List MemPlace} {v0 : Value} {cs0 : Array Value} (hv0 : v0 = .agg cs0) (h0 : DataW.Trod enc Tryd.prog W 0 (fun _ => true) true 25 v0 d0 p0)
    (ht : ∃ c el fr, W.heap[1]? = some (.cells c el fr) ∧ c.toList = Lib.pow10Tab.map fun z => Value.int .u64 z) :
    Calls Tryd.prog 3 #[v0] W fun e w' => e = .returned (.bool true) ∧ Below W.heap.size W w' := by
  have hs : Seen0 (fun _ => none) [] W := Seen0.start fun g vs hg => by
    simp only [Tabs.vals] at hg
    split at hg
    · rename_i e; subst e; cases hg; exact ht
    · cases hg
  obtain ⟨fuel0, k0⟩ := h0
  obtain ⟨ψ0, H0, us0, x0, le0, pr0, q3_0, q4_0, ⟨y0_mails, y0_tombs, rfl, hS0_mails, hS0_tombs, hb0_name⟩, _⟩ := conv_Box E enc W fuel0 _ d0 p0 k0 _ _ hs
  subst hv0
  exact law_calls q3_0 (.cons (.agg q4_0) .nil) (law x0 y0_mails y0_tombs H0 hS0_mails hS0_tombs hb0_name)
end Go.Proofs.YtaccaelocddakaaDoor
