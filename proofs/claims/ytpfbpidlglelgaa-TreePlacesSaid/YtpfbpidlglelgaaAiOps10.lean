/-
  Structs that are held against each other.
-/
import Derived.Test.YtpfbpidlglelgaaAiOps9
import Derived.Laws.StructEq
namespace Go.Ai
set_option linter.unusedVariables false
set_option linter.unusedSimpArgs false
set_option linter.unnecessarySimpa false
open Go.RowKit

section
variable {G : Nat → Option (List AV)} {I : World → Prop} {B0 : Nat} {E : Env}
variable {P : Program} {F : Fr} {a : Act} {d : Option Tmp} {ty : TypeId} {pos : String} {after : Array Edge} {gd : Option (Nat × Bool)}

theorem eqFs_ok {n m : Nat} (ih : ∀ (t : TypeId) (x y : AV) (b : Bool) (u w : Value), eqA P n t x y = some b → Rel E x u → Rel E y w → (Op.equalIn (n + m) t u w).run P E.w = .ok b E.w) {xs ys : List AV} {us ws : Array Value}
    (hx : Rels1 E xs us.toList) (hy : Rels1 E ys ws.toList) : ∀ (fs : List Field) (b : Bool), eqFs P (eqA P n) fs xs ys = some b → (Op.eqFields (n + m) us ws fs).run P E.w = .ok b E.w
  | [], b, h => by
    simp only [eqFs, Option.some.injEq] at h
    subst h
    rfl
  | f :: fs, b, h => by
    simp only [eqFs] at h
    unfold Op.eqFields
    cases hn : (f.name == "_") with
    | true =>
      rw [hn] at h
      rw [if_neg (by simpa using hn)]
      exact eqFs_ok ih hx hy fs b h
    | false =>
      rw [hn] at h
      rw [if_pos (by simpa using hn)]
      simp only [cond_false] at h
      split at h
      · rename_i p q hp hq
        obtain ⟨c1, r1, k1⟩ := run_part (P := P) hp hx E.w
        obtain ⟨c2, r2, k2⟩ := run_part (P := P) hq hy E.w
        cases he : eqA P n f.type p q with
        | none => rw [he] at h; cases h
        | some r =>
          rw [he] at h
          have hr := ih f.type p q r c1 c2 he k1 k2
          simp only [Sem.run_bind, r1, r2, hr, Result.andThen_ok]
          cases r with
          | true =>
            simp only at h
            simpa using eqFs_ok ih hx hy fs b h
          | false =>
            simp only [Option.some.injEq] at h
            subst h
            rfl
      · cases h

theorem eqA_ok : ∀ (n m : Nat) (t : TypeId) (x y : AV) (b : Bool) (u w : Value), eqA P n t x y = some b → Rel E x u → Rel E y w → (Op.equalIn (n + m) t u w).run P E.w = .ok b E.w
  | 0, m, t, x, y, b, u, w, h, _, _ => by simp [eqA] at h
  | n + 1, m, t, x, y, b, u, w, h, hx, hy => by
    rw [show n + 1 + m = (n + m) + 1 by omega]
    simp only [eqA] at h
    split at h
    · rename_i k0 k p k' q hu
      simp only [Rel] at hx hy
      subst hx; subst hy
      cases hk : decide (k = k') with
      | false => rw [hk] at h; cases h
      | true =>
        rw [hk] at h
        simp only [cond_true, Option.some.injEq] at h
        have := of_decide_eq_true hk
        subst this; subst h
        simp [Op.equalIn, run_underlying hu]
    · rename_i p q hu
      simp only [Rel] at hx hy
      subst hx; subst hy
      simp only [Option.some.injEq] at h
      subst h
      simp only [Op.equalIn, Sem.run_bind, run_underlying hu, Result.andThen_ok, Sem.run_pure]
      congr 1
      rw [beq_toListBytes, ByteArray.toList_eq, ByteArray.toList_eq]
    · rename_i p q hu
      simp only [Rel] at hx hy
      subst hx; subst hy
      simp only [Option.some.injEq] at h
      subst h
      simp [Op.equalIn, run_underlying hu]
    · rename_i fs xs ys hu
      obtain ⟨us, rfl, hus⟩ := hx
      obtain ⟨ws, rfl, hws⟩ := hy
      cases hp : P.stoodInHeld t with
      | true => rw [hp] at h; cases h
      | false =>
        rw [hp] at h
        simp only [cond_false] at h
        have hf : P.fieldsOf t = fs := by simp [Program.fieldsOf, hu]
        rw [run_equalIn_struct E.w (n + m) t us ws (by rw [hf]; exact hu) hp, hf]
        exact eqFs_ok (eqA_ok n m) hus hws fs.toList b h
    · cases h

theorem op_eqS (H : Good G I B0 E) (hf : FrsOk E F a) (t u : TypeId) (x y : Operand) {g g' : Bool} {xs ys : List AV} {b : Bool} (hx : ev G F x = (g, .agg xs)) (hy : ev G F y = (g', .agg ys)) (h : eqA P 100 t (.agg xs) (.agg ys) = some b)
    (hob : (g && g' && !P.eqGuardType P.depth t) = true) :
    OpOk P G I B0 E a ⟨d, .binOp .eql t x y u, ty, pos, after, gd⟩ true (.bool b) E.h ∧ OpOk P G I B0 E a ⟨d, .binOp .neq t x y u, ty, pos, after, gd⟩ true (.bool !b) E.h := by
  simp only [Bool.and_eq_true, Bool.not_eq_true'] at hob
  obtain ⟨⟨g1, g2⟩, hm⟩ := hob
  have hrx := ev_rel H hf hx g1
  have hry := ev_rel H hf hy g2
  have he := eqA_ok (P := P) (E := E) 100 9900 t _ _ b _ _ h hrx hry
  obtain ⟨us, h1, _⟩ := hrx
  obtain ⟨ws, h2, _⟩ := hry
  rw [h1, h2] at he
  have hg := fun op => run_eqGuard_agg (P := P) E.w op t x y us ws hm
  constructor
  · refine OpOk.same H (.bool b) ?_ rfl
    simp only [execOp, h1, h2, Sem.run_bind, hg, Result.andThen_ok]
    rw [run_eql_struct E.w t us ws, he]
    rfl
  · refine OpOk.same H (.bool !b) ?_ rfl
    simp only [execOp, h1, h2, Sem.run_bind, hg, Result.andThen_ok]
    rw [run_neq_struct E.w t us ws, he]
    rfl
end
end Go.Ai
