/- A part of the proof: no conditions. -/
import Derived.Test.YtaccaelocddakaaDoorO
namespace Go.Proofs.YtaccaelocddakaaDoor
open Go Go.RowKit
set_option linter.unusedVariables false
set_option linter.unusedSectionVars false
variable [Tabs]

/-! ### What a function has made for itself is forgotten -/

def lowC (n : Nat) : Value → Bool
  | .int _ _ | .string _ | .bool _ | .nilFunc | .nilIface => true
  | .pointer none => true
  | .slice none 0 0 => true
  | .pointer (some ⟨id, _, none⟩) => decide (id < n)
  | .slice (some ⟨id, _, none⟩) _ _ => decide (id < n)
  | _ => false
def lowA (n : Nat) : Value → Bool
  | .agg cs => cs.toList.all (lowC n)
  | v => lowC n v
def lowT (n : Nat) : Value → Bool
  | .tuple cs => cs.toList.all (lowA n)
  | v => lowA n v

theorem lowC_VR {ψ ψ' : Emb} {n : Nat} (hp : ∀ id, id < n → ψ' id = ψ id) {v v' : Value} (hl : lowC n v = true) (h : VR ψ' v v') : VR ψ v v' := by
  cases h with
  | bool b => exact .bool b
  | int k m => exact .int k m
  | string s => exact .string s
  | pnil => exact .pnil
  | ptr e => simp [lowC] at hl; exact .ptr (by rw [← hp _ hl]; exact e)
  | snil => exact .snil
  | snilE => exact .snilE
  | sl e a b c d => simp [lowC] at hl; exact .sl (by rw [← hp _ hl]; exact e) a b c d
  | sl0 e d => simp [lowC] at hl; exact .sl0 (by rw [← hp _ hl]; exact e) d
  | nilFunc => exact .nilFunc
  | nilIface => exact .nilIface
  | iface h => simp [lowC] at hl
  | agg h => simp [lowC] at hl
  | tuple h => simp [lowC] at hl
  | func h h' => simp [lowC] at hl
theorem VRs.imp {ψ ψ' : Emb} {p : Value → Bool} (hp : ∀ v v', p v = true → VR ψ' v v' → VR ψ v v') : ∀ {us vs : List Value}, us.all p = true → VRs ψ' us vs → VRs ψ us vs
  | _, _, _, .nil => .nil
  | _, _, h, .cons a b => by
    simp only [List.all_cons, Bool.and_eq_true] at h
    exact .cons (hp _ _ h.1 a) (VRs.imp hp h.2 b)
theorem lowA_VR {ψ ψ' : Emb} {n : Nat} (hp : ∀ id, id < n → ψ' id = ψ id) {v v' : Value} (hl : lowA n v = true) (h : VR ψ' v v') : VR ψ v v' := by
  by_cases hv : ∃ cs, v = .agg cs
  · obtain ⟨cs, rfl⟩ := hv
    cases h with
    | agg h => exact .agg (VRs.imp (fun _ _ => lowC_VR hp) hl h)
  · refine lowC_VR hp ?_ h
    unfold lowA at hl
    split at hl
    · exact absurd ⟨_, rfl⟩ hv
    · exact hl
theorem lowT_VR {ψ ψ' : Emb} {n : Nat} (hp : ∀ id, id < n → ψ' id = ψ id) {v v' : Value} (hl : lowT n v = true) (h : VR ψ' v v') : VR ψ v v' := by
  by_cases hv : ∃ cs, v = .tuple cs
  · obtain ⟨cs, rfl⟩ := hv
    cases h with
    | tuple h => exact .tuple (VRs.imp (fun _ _ => lowA_VR hp) hl h)
  · refine lowA_VR hp ?_ h
    unfold lowT at hl
    split at hl
    · exact absurd ⟨_, rfl⟩ hv
    · exact hl

mutual
theorem VR.back {ψ ψ' : Emb} (hp : ψ.le ψ') : ∀ {v x y : Value}, VR ψ v x → VR ψ' v y → VR ψ v y
  | _, _, _, .bool b, h => by cases h; exact .bool b
  | _, _, _, .int _ _, h => by cases h; exact .int _ _
  | _, _, _, .string _, h => by cases h; exact .string _
  | _, _, _, .pnil, h => by cases h; exact .pnil
  | _, _, _, .ptr e, h => by cases h with | ptr e' => exact .ptr (by rw [hp _ _ e] at e'; cases e'; exact e)
  | _, _, _, .snil, h => by cases h <;> constructor
  | _, _, _, .snilE, h => by cases h <;> constructor
  | _, _, _, .sl e h0 h1 h2 h3, h => by
    cases h with
    | sl e' a b c d => rw [hp _ _ e] at e'; cases e'; exact .sl e a b c d
    | sl0 e' d => omega
  | _, _, _, .sl0 e h3, h => by
    cases h with
    | sl e' a b c d => omega
    | sl0 e' d => rw [hp _ _ e] at e'; cases e'; exact .sl0 e d
  | _, _, _, .nilFunc, h => by cases h; exact .nilFunc
  | _, _, _, .nilIface, h => by cases h; exact .nilIface
  | _, _, _, .iface a, h => by cases h with | iface b => exact .iface (VR.back hp a b)
  | _, _, _, .agg a, h => by cases h with | agg b => exact .agg (VRs.back hp a b)
  | _, _, _, .tuple a, h => by cases h with | tuple b => exact .tuple (VRs.back hp a b)
  | _, _, _, .func a a', h => by cases h with | func b b' => exact .func (VRs.back hp a b) (VRs.back hp a' b')
theorem VRs.back {ψ ψ' : Emb} (hp : ψ.le ψ') : ∀ {v x y : List Value}, VRs ψ v x → VRs ψ' v y → VRs ψ v y
  | _, _, _, .nil, h => by cases h; exact .nil
  | _, _, _, .cons a a', h => by cases h with | cons b b' => exact .cons (VR.back hp a b) (VRs.back hp a' b')
end

def pads (ψ : Emb) (n N : Nat) : AH := (List.range N).map fun i => ⟨0, match ψ (n + i) with | some L => L.esz | none => 0, [], .dead⟩
theorem pads_get {ψ : Emb} {n N i : Nat} {B : Blk} (h : (pads ψ n N)[i]? = some B) : B.st = .dead ∧ ∀ L, ψ (n + i) = some L → L.esz = B.esz := by
  unfold pads at h
  rw [List.getElem?_map] at h
  simp only [Option.map_eq_some_iff] at h
  obtain ⟨j, h1, rfl⟩ := h
  rw [List.getElem?_range (by
    rcases Nat.lt_or_ge i N with g | g
    · exact g
    · simp [g] at h1)] at h1
  cases h1
  exact ⟨rfl, fun L hL => by simp [hL]⟩

theorem pad_cases {ψ : Emb} {H : AH} {N k : Nat} {B : Blk} (h : (H ++ pads ψ H.length N)[k]? = some B) : H[k]? = some B ∨ (B.st = .dead ∧ ∀ L, ψ k = some L → L.esz = B.esz) := by
  rcases Nat.lt_or_ge k H.length with g | g
  · rw [List.getElem?_append_left g] at h; exact .inl h
  · rw [List.getElem?_append_right g] at h
    have := pads_get h
    rw [show H.length + (k - H.length) = k by omega] at this
    exact .inr this

theorem WR.pad {ψ : Emb} {H : AH} {w : World} (hw : WR ψ H w) (N : Nat) : WR ψ (H ++ pads ψ H.length N) w := by
  refine ⟨hw.blk, fun id L B h1 h2 => ?_, fun a b La Lb Ba h1 h2 h3 h4 h5 h6 => ?_, fun q vs hv => ?_, hw.fin⟩
  · rcases pad_cases h2 with g | ⟨g, g'⟩
    · exact hw.cells id L B h1 g
    · exact ⟨g' L h1, fun hd => absurd g hd⟩
  · rcases pad_cases h3 with g | ⟨g, _⟩
    · obtain ⟨q1, B2, q2, q3⟩ := hw.inj a b La Lb Ba h1 h2 g h4 h5 h6
      exact ⟨q1, B2, get_prefix (List.prefix_append _ _) q2, q3⟩
    · rw [g] at h4; cases h4
  · obtain ⟨r1, r2⟩ := hw.fixed q vs hv
    refine ⟨r1, fun ⟨id, L, B, a1, a2, a3, a4⟩ => ?_⟩
    rcases pad_cases a2 with g | ⟨g, _⟩
    · exact r2 ⟨id, L, B, a1, g, a3, a4⟩
    · rw [g] at a3; cases a3

/-- A function that leaves old memory as it was, and whose answer leads to nothing new: it does nothing at all. -/
theorem FWp.pure {P : Program} {f : FuncId} {args : List Value} {H : AH} {v : Value} (hv : lowT H.length v = true) (h : ∀ H1, H <+: H1 → FWp P f args H1 (fun v' H' => v' = v ∧ H1 <+: H')) : FWp P f args H (fun v' H' => v' = v ∧ H' = H) := by
  refine ⟨(h H (List.prefix_refl _)).can, v, H, ⟨rfl, rfl⟩, Nat.le_refl _, fun ψ w args' hw ha _ => ?_⟩
  obtain ⟨N, hN⟩ := hw.fin
  obtain ⟨v1, H', ⟨rfl, hp⟩, hl, hE⟩ := (h (H ++ pads ψ H.length N) (List.prefix_append _ _)).wp
  have hlen : (H ++ pads ψ H.length N).length = H.length + N := by simp [pads]
  refine (hE ψ w args' (hw.pad N) ha fun id a b => hN id (by omega)).mono ?_
  rintro e w' ⟨v', ψ', rfl, hr, hs⟩
  have hoff : ∀ id, id < H.length → ψ' id = ψ id := fun id hid => hs.off id (.inl (by omega))
  have hpre : H <+: H' := (List.prefix_append _ _).trans hp
  have wd := hs.wr.down hpre
  refine ⟨v', ψ, rfl, lowT_VR hoff hv hr, ⟨?_, ?_, ?_, ?_, ⟨N, hN⟩⟩, fun _ _ e => e, fun _ _ => rfl, Nat.le_refl _, hs.size, hs.os, hs.tape, hs.output, ?_, fun _ _ a b => absurd b (by omega), fun _ h => .inr h⟩
  · exact fun id L e => hs.wr.blk id L (hs.le id L e)
  · intro id L B h1 h2
    obtain ⟨g1, g2⟩ := wd.cells id L B (hs.le id L h1) h2
    refine ⟨g1, fun hd => ?_⟩
    obtain ⟨c, fr, k1, k2, k3, k4⟩ := g2 hd
    obtain ⟨_, g3⟩ := hw.cells id L B h1 h2
    obtain ⟨c0, fr0, _, _, j3, _⟩ := g3 hd
    refine ⟨c, fr, k1, k2, fun i u hu => ?_, k4⟩
    obtain ⟨u1, r1, r2⟩ := k3 i u hu
    obtain ⟨u0, _, s2⟩ := j3 i u hu
    exact ⟨u1, r1, s2.back hs.le r2⟩
  · exact fun a b La Lb Ba h1 h2 h3 h4 h5 h6 => wd.inj a b La Lb Ba (hs.le _ _ h1) (hs.le _ _ h2) h3 h4 h5 h6
  · intro q vs hq
    obtain ⟨r1, r2⟩ := wd.fixed q vs hq
    exact ⟨r1, fun ⟨id, L, B, a1, a2⟩ => r2 ⟨id, L, B, hs.le _ _ a1, a2⟩⟩
  · intro b hb hn
    refine hs.keep b hb fun ⟨id, L, B, a1, a2, a3, a4⟩ => ?_
    rcases pad_cases a2 with g | ⟨g, _⟩
    · exact hn ⟨id, L, B, a1, g, a3, a4⟩
    · rw [g] at a3; cases a3

end Go.Proofs.YtaccaelocddakaaDoor
