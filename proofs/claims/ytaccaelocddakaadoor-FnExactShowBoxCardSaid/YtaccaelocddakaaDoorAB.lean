/- A part of the proof: no conditions. -/
import Derived.Test.YtaccaelocddakaaDoorAA
namespace Go.Proofs.YtaccaelocddakaaDoor
open Go Go.RowKit
set_option linter.unusedVariables false
set_option linter.unusedSectionVars false
variable [Tabs]

theorem small_of {n bytes : Nat} (h : n ≤ 4194304) (hb : bytes ≤ 1000) : n * bytes ≤ 70368744177664 ∧ n ≤ lim := by
  refine ⟨Nat.le_trans (Nat.mul_le_mul h hb) (by decide), Nat.le_trans h (by decide)⟩
theorem lit_S {α : Type} {k : Kd α} {H : AH} {b e n : Nat} {cells : List Value} {xs : List α} (a : H[b]? = some ⟨e, k.size, cells, .rw⟩) (hr : k.Rs H cells xs) (hn : xs.length = n) (hl : n ≤ lim) : k.S H (.slice (some ⟨b, 0, none⟩) n n) xs := by
  subst hn
  refine .inr ⟨b, 0, xs.length, _, rfl, ⟨Nat.le_refl _, hl⟩, a, rw_live, rfl, ?_, ?_⟩
  · simp only; rw [hr.len]; omega
  · simp only [List.drop_zero]
    rw [← hr.len, List.take_length]
    exact hr

section
variable {P : Program} {ops : Array Oper} {K : GF → AH → Prop} {rest : List Oper} {sps : List Bool} {G : GF} {H H0 : AH} {g : Bool} {dst : Option Nat} {ty : TypeId} {pos : String} {aft : Array Edge} {gd : Option (Nat × Bool)}

/-- A sum of whole numbers, its value told. -/
theorem RVs.arith {op : BinOp} {t ty' : TypeId} {x y : Operand} {u v : Value} {kd : IntKind} {r0 r : Int} {c : Prop} (hx : G.raw x = some u) (hy : G.raw y = some v) (h : binV op u v = some (.int kd r0, c)) (hr : r0 = r) (hd : dstOk G ⟨dst, .binOp op t x y ty', ty, pos, aft, gd⟩ = true)
    (hc : g = true → (G.cond x = true ∧ G.cond y = true) ∧ c) (k : VC P ops K rest sps.tail (G.put dst (g, .int kd r)) H) : RVs P ops K ⟨dst, .binOp op t x y ty', ty, pos, aft, gd⟩ rest sps G H g := by
  subst hr; exact RVs.bin hx hy h hd hc k
theorem RVs.conv_intR {s d : TypeId} {x : Operand} {k1 k2 kx : IntKind} {n r : Int} (hx : G.raw x = some (.int kx n)) (hs : P.underlying s = some (.int k1)) (hd' : P.underlying d = some (.int k2)) (hr : k2.wrap n = r) (hd : dstOk G ⟨dst, .convert s d x, ty, pos, aft, gd⟩ = true)
    (hc : g = true → G.cond x = true) (k : VC P ops K rest sps.tail (G.put dst (g, .int k2 r)) H) : RVs P ops K ⟨dst, .convert s d x, ty, pos, aft, gd⟩ rest sps G H g := by
  subst hr; exact RVs.conv_int hx hs hd' hd hc k

theorem RVs.appendZ {α : Type} {k : Kd α} (hk : k.Flat) {t u e e2 bytes i : Nat} {x y : Operand} {v yv : Value} {xs ys zs : List α} {ps : List Pr} {F0 : List Nat} (hs : Sep F0 H0 H ps) (hi : ps[i]? = some (pOwn k e v xs)) (hx : G.raw x = some v) (hy : G.raw y = some yv)
    (ht : elemOf P t = some (e, k.size, bytes)) (he : elOk P e k.size bytes = true) (hu : P.underlying u = some (.slice e2)) (hg : g = true) (hsp : sps.headD false = true) (hd : dstOk G ⟨dst, .call ⟨.builtin .append, #[x, y], #[t, u]⟩, ty, pos, aft, gd⟩ = true) (hc : G.cond x = true ∧ G.cond y = true)
    (hS : k.S H yv ys) (hz : xs ++ ys = zs) (hsmall : (xs.length + ys.length) * bytes ≤ 70368744177664 ∧ xs.length + ys.length ≤ lim)
    (kk : ∀ (a' : Option Addr) (c' : Nat) (H' : AH), zs.length ≤ c' → Sep F0 H0 H' (ps.set i (pOwn k e (.slice a' zs.length c') zs)) → VC P ops K rest sps.tail (G.put dst (true, .slice a' zs.length c')) H') :
    RVs P ops K ⟨dst, .call ⟨.builtin .append, #[x, y], #[t, u]⟩, ty, pos, aft, gd⟩ rest sps G H g := by
  subst hz; exact RVs.appendO hk hs hi hx hy ht he hu hg hsp hd hc hS hsmall kk
end
end Go.Proofs.YtaccaelocddakaaDoor
namespace Go.Proofs.YtaccaelocddakaaDoor
open Go Go.RowKit
theorem GF.conds_cons {G : GF} {x : Operand} {xs : List Operand} (h1 : G.cond x = true) (h2 : G.conds xs = true) : G.conds (x :: xs) = true := by
  simp only [GF.conds, h1, h2]; rfl
end Go.Proofs.YtaccaelocddakaaDoor
