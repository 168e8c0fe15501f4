/- What the law FnExactTellView reads, told by kinds; the law, called on it, answers true. -/
import Derived.Test.YtaccaelocddakaaBT11
import Derived.Test.YtaccaelocddakaaW
import Derived.KernelRfl
namespace Go.Proofs.Ytaccaelocddakaa
open Go Go.RowKit
set_option linter.unusedVariables false
set_option maxRecDepth 20000

/-- No package-level table is read. -/
instance tabs : Tabs := ⟨fun _ => none⟩

theorem conv_String : Conv Try.prog 9 Kd.str (fun _ => True) := Conv.str UnStr.h
theorem conv_Int : Conv Try.prog 3 kInt (fun n => (Lit.int .i64 n).wf = true) := Conv.int UnInt.h
theorem conv_View : Conv Try.prog 42 kView (fun _ => True) :=
  Conv.map (Conv.struct Try.underlying42 (by kernel_rfl) (.cons conv_String rfl (by kernel_rfl) (.cons conv_Int rfl (by kernel_rfl) (.cons (Conv.slice Try.underlying40 (by kernel_rfl) (by decide) conv_Int) rfl (by kernel_rfl) (.last conv_Int rfl (by kernel_rfl)))))) (fun x => ⟨x.1, x.2.1, x.2.2.1, x.2.2.2⟩)
    (fun H us x h _ => by
      obtain ⟨u0, u1, rfl, ⟨rfl, hb_box⟩, u2, u3, rfl, rfl, u4, u5, rfl, ⟨v_uids, rfl, hv_uids⟩, rfl⟩ := h
      exact ⟨⟨v_uids, rfl, hv_uids, hb_box⟩, trivial⟩)
theorem conv_Mail : Conv Try.prog 128 kMail (fun _ => True) :=
  Conv.map (Conv.struct Try.underlying128 (by kernel_rfl) (.cons conv_Int rfl (by kernel_rfl) (.cons conv_Int rfl (by kernel_rfl) (.cons conv_Int rfl (by kernel_rfl) (.last conv_String rfl (by kernel_rfl)))))) (fun x => ⟨x.1, x.2.1, x.2.2.1, x.2.2.2⟩)
    (fun H us x h _ => by
      obtain ⟨u0, u1, rfl, rfl, u2, u3, rfl, rfl, u4, u5, rfl, rfl, ⟨rfl, hb_text⟩⟩ := h
      exact ⟨⟨rfl, hb_text⟩, trivial⟩)
theorem conv_Tomb : Conv Try.prog 133 kTomb (fun _ => True) :=
  Conv.map (Conv.struct Try.underlying133 (by kernel_rfl) (.cons conv_Int rfl (by kernel_rfl) (.last conv_Int rfl (by kernel_rfl)))) (fun x => ⟨x.1, x.2⟩)
    (fun H us x h _ => by
      obtain ⟨u0, u1, rfl, rfl, rfl⟩ := h
      exact ⟨⟨rfl, trivial⟩, trivial⟩)
theorem conv_Box : Conv Try.prog 46 kBox (fun _ => True) :=
  Conv.map (Conv.struct Try.underlying46 (by kernel_rfl) (.cons conv_String rfl (by kernel_rfl) (.cons conv_Int rfl (by kernel_rfl) (.cons conv_Int rfl (by kernel_rfl) (.cons conv_Int rfl (by kernel_rfl) (.cons (Conv.slice Try.underlying43 (by kernel_rfl) (by decide) conv_Mail) rfl (by kernel_rfl) (.cons (Conv.slice Try.underlying44 (by kernel_rfl) (by decide) conv_Tomb) rfl (by kernel_rfl) (.last conv_Int rfl (by kernel_rfl))))))))) (fun x => ⟨x.1, x.2.1, x.2.2.1, x.2.2.2.1, x.2.2.2.2.1, x.2.2.2.2.2.1, x.2.2.2.2.2.2⟩)
    (fun H us x h _ => by
      obtain ⟨u0, u1, rfl, ⟨rfl, hb_name⟩, u2, u3, rfl, rfl, u4, u5, rfl, rfl, u6, u7, rfl, rfl, u8, u9, rfl, ⟨v_mails, rfl, hv_mails⟩, u10, u11, rfl, ⟨v_tombs, rfl, hv_tombs⟩, rfl⟩ := h
      exact ⟨⟨v_mails, v_tombs, rfl, hv_mails, hv_tombs, hb_name⟩, trivial⟩)
/-- The law answers true, whatever is read. -/
theorem run {E : Type} {enc : TypeId × Value → E} {W : World} {d0 : DataW E} {p0 : List MemPlace} {v0 : Value} {cs0 : Array Value} (hv0 : v0 = .agg cs0) (h0 : DataW.Trod enc Try.prog W 0 (fun _ => true) true 42 v0 d0 p0) {d1 : DataW E} {p1 : List MemPlace} {v1 : Value} {cs1 : Array Value} (hv1 : v1 = .agg cs1) (h1 : DataW.Trod enc Try.prog W 0 (fun _ => true) true 46 v1 d1 p1) :
    Calls Try.prog 4 #[v0, v1] W fun e w' => e = .returned (.bool true) ∧ Below W.heap.size W w' := by
  have hs : Seen0 (fun _ => none) [] W := Seen0.start fun g vs hg => by simp only [Tabs.vals] at hg; cases hg
  obtain ⟨fuel0, k0⟩ := h0
  obtain ⟨ψ0, H0, us0, x0, le0, pr0, q3_0, q4_0, ⟨y0_uids, rfl, hS0_uids, hb0_box⟩, _⟩ := conv_View E enc W fuel0 _ d0 p0 k0 _ _ hs
  subst hv0
  obtain ⟨fuel1, k1⟩ := h1
  obtain ⟨ψ1, H1, us1, x1, le1, pr1, q3_1, q4_1, ⟨y1_mails, y1_tombs, rfl, hS1_mails, hS1_tombs, hb1_name⟩, _⟩ := conv_Box E enc W fuel1 _ d1 p1 k1 _ _ q3_0
  subst hv1
  exact law_calls q3_1 (.cons (.agg (VRs.mono le1 q4_0)) (.cons (.agg q4_1) .nil)) (law x0 y0_uids x1 y1_mails y1_tombs H1 (hS0_uids.mono (hle pr1)) hb0_box hS1_mails hS1_tombs hb1_name)
end Go.Proofs.Ytaccaelocddakaa
