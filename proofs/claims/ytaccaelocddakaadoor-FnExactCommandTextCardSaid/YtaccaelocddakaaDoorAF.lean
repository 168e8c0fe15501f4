/- A part of the proof: no conditions. -/
import Derived.Test.YtaccaelocddakaaDoorAE
namespace Go.Proofs.YtaccaelocddakaaDoor
open Go Go.RowKit
set_option linter.unusedVariables false
set_option linter.unusedSectionVars false
variable [Tabs]

/-- What a machine's slice of strings is. -/
theorem strs_VR {ψ : Emb} {H : AH} {w : World} (hw : WR ψ H w) {v v' : Value} {xs : List (List UInt8)} (hS : Kd.str.S H v xs) (hv : VR ψ v v') :
    (xs = [] ∧ ∃ a c, v' = .slice a 0 c) ∨ (∃ b o c, v' = .slice (some ⟨b, o, none⟩) xs.length c ∧ xs.length ≤ c ∧ b < w.heap.size ∧ ∀ (j : Nat) (x : List UInt8), xs[j]? = some x → w.cell? ⟨b, o + j, none⟩ = some (.string (bs x))) := by
  rcases hS with ⟨rfl, rfl⟩ | ⟨id, j, c, B, rfl, h2, h3, h4, h5, h6, h7⟩
  · cases hv <;> exact .inl ⟨rfl, _, _, rfl⟩
  · generalize hn : xs.length = n at hv
    cases hv with
    | sl0 e d => exact .inl ⟨List.eq_nil_of_length_eq_zero hn, _, _, rfl⟩
    | sl e q0 q1 q2 q3 =>
      rename_i L c'
      subst hn
      right
      obtain ⟨cc, fr, g1, g2, g3, g4, g5, g6⟩ := hw.some_live e h3 h4
      refine ⟨L.b, L.o + j, c', rfl, by omega, heap_lt g1, fun i x hx => ?_⟩
      obtain ⟨u, r1, r2⟩ := h7.get hx
      obtain ⟨rfl, _⟩ := r1
      have hi : i < xs.length := by obtain ⟨hi, _⟩ := List.getElem?_eq_some_iff.1 hx; exact hi
      have s1 := r2 0 (by decide)
      have hsz : Kd.str.size = 1 := rfl
      rw [hsz] at s1 h6
      rw [Nat.mul_one, Nat.add_zero, List.getElem?_take, if_pos (by omega), List.getElem?_drop] at s1
      have s2 : B.cells[j + i]? = some (.string (bs x)) := by simpa using s1
      obtain ⟨v', t1, t2⟩ := g5 (j + i) _ s2
      cases t2
      rw [cell_of g1, show L.o + j + i = L.o + (j + i) by omega]; exact t1

/-- A contract of the library over a list of strings and plain arguments: a plain answer, nothing done to old memory. -/
theorem AEval.of_strs {P : Program} {k : FuncId} {v : Value} {xs : List (List UInt8)} {rest : List Value} {H : AH} {r : Value} (hp : ∀ u ∈ rest, PlainV u) (hr : PlainV r) (hS : Kd.str.S H v xs)
    (h0 : xs = [] → ∀ (w : World) (a : Option Addr) (c : Nat), (∀ g vs, Tabs.vals g = some vs → ∃ c el fr, w.heap[g]? = some (.cells c el fr) ∧ c.toList = vs) → Calls P k (.slice a 0 c :: rest).toArray w fun e w' => e = .returned r ∧ Below w.heap.size w w')
    (h1 : ∀ (w : World) (b o c : Nat), (∀ g vs, Tabs.vals g = some vs → ∃ c el fr, w.heap[g]? = some (.cells c el fr) ∧ c.toList = vs) → xs.length ≤ c → b < w.heap.size → (∀ (j : Nat) (x : List UInt8), xs[j]? = some x → w.cell? ⟨b, o + j, none⟩ = some (.string (bs x))) →
      Calls P k (.slice (some ⟨b, o, none⟩) xs.length c :: rest).toArray w fun e w' => e = .returned r ∧ Below w.heap.size w w') : AEval P k (v :: rest) H r H := by
  refine ⟨Nat.le_refl _, fun ψ w args' hw ha _ => ?_⟩
  have ht : ∀ g vs, Tabs.vals g = some vs → ∃ c el fr, w.heap[g]? = some (.cells c el fr) ∧ c.toList = vs := fun g vs hg => (hw.fixed g vs hg).1
  obtain ⟨l⟩ := args'
  simp only at ha
  cases ha with
  | cons hv hrest =>
    obtain rfl := hrest.plain_eq hp
    have fin : ∀ {Q : Exit → World → Prop}, True := fun {_} => trivial
    rcases strs_VR hw hS hv with ⟨rfl, a, c, rfl⟩ | ⟨b, o, c, rfl, c1, c2, c3⟩
    · refine (h0 rfl w a c ht).mono ?_
      rintro e w' ⟨rfl, hb⟩
      exact ⟨r, ψ, rfl, .of_plain hr, .below hw hb⟩
    · refine (h1 w b o c ht c1 c2 c3).mono ?_
      rintro e w' ⟨rfl, hb⟩
      exact ⟨r, ψ, rfl, .of_plain hr, .below hw hb⟩
theorem join_len_fin {xs : List (List UInt8)} {sep : List UInt8} {n : Nat} (h : (Lib.join xs sep).length ≤ n) (hn : n ≤ 140737488355328) : (Lib.join ((xs.map bs).map (·.data.toList)) sep).length ≤ 140737488355328 := by
  have : (xs.map bs).map (·.data.toList) = xs := by rw [List.map_map]; simp [Function.comp_def, bs]
  rw [this]; omega
end Go.Proofs.YtaccaelocddakaaDoor
namespace Go.Proofs.YtaccaelocddakaaDoor
theorem flagSel_len (b i : Nat) : (flagSel b i).length ≤ i := by
  unfold flagSel; rw [List.length_map]; exact Nat.le_trans (List.length_filter_le _ _) (by simp)
end Go.Proofs.YtaccaelocddakaaDoor
namespace Go.Proofs.YtaccaelocddakaaDoor
set_option linter.unusedSectionVars false
variable [Tabs]
theorem szBox_n {x : Box} (h : ¬ szBoxL x 1048576 < 0) : x.mails.length ≤ 1048576 ∧ x.tombs.length ≤ 1048576 := by
  unfold szBoxL at h
  split at h
  · exact absurd (by decide) h
  · split at h
    · exact absurd (by decide) h
    · rename_i h1 h2
      obtain ⟨a, b, _⟩ := szS_all szMailL_le h2
      have := szl_pos h
      omega
end Go.Proofs.YtaccaelocddakaaDoor
