/- A part of the proof: no conditions. -/
import Derived.Test.YtaccaelocddakaaDoorAA
namespace Go.Proofs.YtaccaelocddakaaDoor
open Go Go.RowKit
set_option linter.unusedVariables false
set_option linter.unusedSectionVars false
variable [Tabs]

theorem small_of {n bytes : Nat} (h : n ≤ 4194304) (hb : bytes ≤ 1000) : n * bytes ≤ 70368744177664 ∧ n ≤ lim := by
  refine ⟨Nat.le_trans (Nat.mul_le_mul h hb) (by decide), Nat.le_trans h (by decide)⟩
theorem lit_S {α : Type} {k : Kd α} {H : AH} {b e n : Nat} {cells : List Value} {xs : List α} (a : H[b]? = some ⟨e, k.size, cells, .rw⟩) (hr : k.Rs H cells xs) (hn : xs.length = n) (hl : n ≤ lim) : k.S H (.slice (some ⟨b, 0, none⟩) n n) xs := by
  subst hn
  refine .inr ⟨b, 0, xs.length, _, rfl, ⟨Nat.le_refl _, hl⟩, a, rw_live, rfl, ?_, ?_⟩
  · simp only; rw [hr.len]; omega
  · simp only [List.drop_zero]
    rw [← hr.len, List.take_length]
    exact hr

section
variable {P : Program} {ops : Array Oper} {K : GF → AH → Prop} {rest : List Oper} {sps : List Bool} {G : GF} {H H0 : AH} {g : Bool} {dst : Option Nat} {ty : TypeId} {pos : String} {aft : Array Edge} {gd : Option (Nat × Bool)}

/-- A sum of whole numbers, its value told. -/
theorem RVs.arith {op : BinOp} {t ty' : TypeId} {x y : Operand} {u v : Value} {kd : IntKind} {r0 r : Int} {c : Prop} (hx : G.raw x = some u) (hy : G.raw y = some v) (h : binV op u v = some (.int kd r0, c)) (hr : r0 = r) (hd : dstOk G ⟨dst, .binOp op t x y ty', ty, pos, aft, gd⟩ = true)
    (hc : g = true → (G.cond x = true ∧ G.cond y = true) ∧ c) (k : VC P ops K rest sps.tail (G.put dst (g, .int kd r)) H) : RVs P ops K ⟨dst, .binOp op t x y ty', ty, pos, aft, gd⟩ rest sps G H g := by
  subst hr; exact RVs.bin hx hy h hd hc k
theorem RVs.conv_intR {s d : TypeId} {x : Operand} {k1 k2 kx : IntKind} {n r : Int} (hx : G.raw x = some (.int kx n)) (hs : P.underlying s = some (.int k1)) (hd' : P.underlying d = some (.int k2)) (hr : k2.wrap n = r) (hd : dstOk G ⟨dst, .convert s d x, ty, pos, aft, gd⟩ = true)
    (hc : g = true → G.cond x = true) (k : VC P ops K rest sps.tail (G.put dst (g, .int k2 r)) H) : RVs P ops K ⟨dst, .convert s d x, ty, pos, aft, gd⟩ rest sps G H g := by
  subst hr; exact RVs.conv_int hx hs hd' hd hc k

theorem RVs.appendZ {α : Type} {k : Kd α} (hk : k.Flat) {t u e e2 bytes i : Nat} {x y : Operand} {v yv : Value} {xs ys zs : List α} {ps : List Pr} {F0 : List Nat} (hs : Sep F0 H0 H ps) (hi : ps[i]? = some (pOwn k e v xs)) (hx : G.raw x = some v) (hy : G.raw y = some yv)
    (ht : elemOf P t = some (e, k.size, bytes)) (he : elOk P e k.size bytes = true) (hu : P.underlying u = some (.slice e2)) (hg : g = true) (hsp : sps.headD false = true) (hd : dstOk G ⟨dst, .call ⟨.builtin .append, #[x, y], #[t, u]⟩, ty, pos, aft, gd⟩ = true) (hc : G.cond x = true ∧ G.cond y = true)
    (hS : k.S H yv ys) (hz : xs ++ ys = zs) (hsmall : (xs.length + ys.length) * bytes ≤ 70368744177664 ∧ xs.length + ys.length ≤ lim)
    (kk : ∀ (a' : Option Addr) (c' : Nat) (H' : AH), zs.length ≤ c' → Sep F0 H0 H' (ps.set i (pOwn k e (.slice a' zs.length c') zs)) → VC P ops K rest sps.tail (G.put dst (true, .slice a' zs.length c')) H') :
    RVs P ops K ⟨dst, .call ⟨.builtin .append, #[x, y], #[t, u]⟩, ty, pos, aft, gd⟩ rest sps G H g := by
  subst hz; exact RVs.appendO hk hs hi hx hy ht he hu hg hsp hd hc hS hsmall kk
end
end Go.Proofs.YtaccaelocddakaaDoor
namespace Go.Proofs.YtaccaelocddakaaDoor
open Go Go.RowKit
theorem GF.conds_cons {G : GF} {x : Operand} {xs : List Operand} (h1 : G.cond x = true) (h2 : G.conds xs = true) : G.conds (x :: xs) = true := by
  simp only [GF.conds, h1, h2]; rfl
end Go.Proofs.YtaccaelocddakaaDoor
namespace Go.Proofs.YtaccaelocddakaaDoor
open Go Go.RowKit
set_option linter.unusedVariables false
set_option linter.unusedSectionVars false
variable [Tabs]
section
variable {P : Program} {ρ : Operand → Option Value} {o : Oper}
/-- A literal of no elements, told as no slice: what is appended to it is new. -/
theorem OEval.buildNil {t e n : Nat} {H : AH} (ho : o.op = .buildSlice t 0 #[]) (ht : P.underlying t = some (.slice e)) (hz : ∃ ti, P.info? e = some ti ∧ ti.size = n) : OEval P o ρ H (.slice none 0 0) H := by
  refine ⟨Nat.le_refl _, fun ψ w a hw hh hn K Q hk => ?_⟩
  obtain ⟨ti, hi, hsz⟩ := hz
  have hs : (Go.sizeOf e).run P w = .ok n w := by simp [Go.sizeOf, typeInfo, hi, hsz]
  have hb : Below w.heap.size w { w with heap := w.heap.push (.cells #[] e (0, 0)) } := ⟨rfl, rfl, rfl, by simp, fun b hb => by simp only; rw [Array.getElem?_push, if_neg (by omega)]⟩
  refine wp_value (v := .slice (some ⟨w.heap.size, 0, none⟩) 0 0) (w' := { w with heap := w.heap.push (.cells #[] e (0, 0)) }) ?_ (hk _ ψ _ .snilE (.below hw hb))
  simp only [execOp, ho, Instr.buildSlice]
  simp [underlying, ht, hs, Instr.fill, newRow]
  rw [show Array.map (fun x => (default : Value)) (Array.range 0) = #[] from by simp]
end
section
variable {P : Program} {ops : Array Oper} {K : GF → AH → Prop} {rest : List Oper} {sps : List Bool} {G : GF} {H H0 : AH} {g : Bool} {dst : Option Nat} {ty : TypeId} {pos : String} {aft : Array Edge} {gd : Option (Nat × Bool)}
theorem RVs.buildNil {t e n bytes : Nat} (ht : elemOf P t = some (e, n, bytes)) (hg : g = true) (hd : dstOk G ⟨dst, .buildSlice t 0 #[], ty, pos, aft, gd⟩ = true)
    (k : VC P ops K rest sps.tail (G.put dst (true, .slice none 0 0)) H) : RVs P ops K ⟨dst, .buildSlice t 0 #[], ty, pos, aft, gd⟩ rest sps G H g := by
  subst hg
  obtain ⟨ti, h1, h2, h3, h4⟩ := elem_parts ht
  exact ⟨_, H, ⟨fun _ => ⟨OEval.buildNil rfl h1 ⟨ti, h2, h3⟩, .inr (List.prefix_refl _), fun hi => by cases hi⟩, (fun hf => by cases hf), dstOk_sound hd⟩, k⟩

/-- Plain elements put behind no slice: the heap only grows. -/
theorem RVs.appendN {α : Type} {k : Kd α} (hk : k.Flat) {t u e e2 bytes : Nat} {x y : Operand} {yv : Value} {ys zs : List α} {ps : List Pr} {F0 : List Nat} (hs : Sep F0 H0 H ps) (hx : G.raw x = some (.slice none 0 0)) (hy : G.raw y = some yv)
    (ht : elemOf P t = some (e, k.size, bytes)) (he : elOk P e k.size bytes = true) (hu : P.underlying u = some (.slice e2)) (hg : g = true) (hd : dstOk G ⟨dst, .call ⟨.builtin .append, #[x, y], #[t, u]⟩, ty, pos, aft, gd⟩ = true) (hc : G.cond x = true ∧ G.cond y = true)
    (hS : k.S H yv ys) (hz : ys = zs) (hsmall : ys.length * bytes ≤ 70368744177664 ∧ ys.length ≤ lim)
    (kk : ∀ (a' : Option Addr) (c' : Nat) (H' : AH), H <+: H' → zs.length ≤ c' → Sep F0 H0 H' (pOwn k e (.slice a' zs.length c') zs :: ps) → VC P ops K rest sps.tail (G.put dst (true, .slice a' zs.length c')) H') :
    RVs P ops K ⟨dst, .call ⟨.builtin .append, #[x, y], #[t, u]⟩, ty, pos, aft, gd⟩ rest sps G H g := by
  subst hz
  obtain ⟨cs, src, rs⟩ := hS.src
  have hrl := rs.len
  rcases Nat.eq_zero_or_pos ys.length with h0 | h0
  · obtain rfl : ys = [] := List.eq_nil_of_length_eq_zero h0
    refine RVs.append_zero hx hy ht he hu (.inl ⟨_, rfl⟩) hg hd hc src (kk none 0 H (List.prefix_refl _) (Nat.le_refl _) ?_)
    exact Sep.addNil hs
  · refine RVs.append_grow hx hy ht he hu (.inl ⟨_, rfl⟩) hg (.inr rfl) hd hc src .nil (fun q hq => by cases hq) rs.oc (by omega) (by simpa using hsmall.1) ?_
    have hp : H <+: grown H none ⟨e, k.size, [] ++ cs, .rw⟩ := List.prefix_append _ _
    have := kk (some ⟨H.length, 0, none⟩) (0 + ys.length) (grown H none ⟨e, k.size, [] ++ cs, .rw⟩) hp (by omega) ?_
    · simpa using this
    · have h9 := Sep.addO (k := k) (xs := ys) (n := ys.length) (e := e) (id := H.length) (cs := cs) hk hs hp (Nat.le_refl _) (by simp [grown]) (rs.mono (hle hp)) rfl hsmall.2
      simpa using h9
end
end Go.Proofs.YtaccaelocddakaaDoor
