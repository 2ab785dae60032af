/-
  Structs that are held against each other.
-/
import Derived.Test.YtnncfdlpogjlkaaDoorQAiOps9
import Derived.Laws.StructEq
namespace Go.Ai
set_option linter.unusedVariables false
set_option linter.unusedSimpArgs false
set_option linter.unnecessarySimpa false
open Go.RowKit

section
variable {G : Nat → Option (List AV)} {I : World → Prop} {B0 : Nat} {E : Env}
variable {P : Program} {F : Fr} {a : Act} {d : Option Tmp} {ty : TypeId} {pos : String} {after : Array Edge} {gd : Option (Nat × Bool)}

theorem eqFs_ok {n m : Nat} (ih : ∀ (t : TypeId) (x y : AV) (b : Bool) (u w : Value), okEq P n t = true → eqA P n t x y = some b → Rel E x u → Rel E y w → (Op.equalIn (n + m) t u w).run P E.w = .ok b E.w) {xs ys : List AV} {us ws : Array Value}
    (hx : Rels1 E xs us.toList) (hy : Rels1 E ys ws.toList) : ∀ (fs : List Field) (b : Bool), (fs.all fun f => !(f.name == "_") && okEq P n f.type) = true → eqFs P (eqA P n) fs xs ys = some b → (Op.eqFields (n + m) us ws fs).run P E.w = .ok b E.w
  | [], b, _, h => by
    simp only [eqFs, Option.some.injEq] at h
    subst h
    rfl
  | f :: fs, b, ho, h => by
    simp only [List.all_cons, Bool.and_eq_true, Bool.not_eq_true'] at ho
    obtain ⟨⟨hn, ho1⟩, ho2⟩ := ho
    simp only [eqFs] at h
    unfold Op.eqFields
    rw [if_pos (by simpa using hn)]
    split at h
    · rename_i p q hp hq
      obtain ⟨c1, r1, k1⟩ := run_part (P := P) hp hx E.w
      obtain ⟨c2, r2, k2⟩ := run_part (P := P) hq hy E.w
      cases he : eqA P n f.type p q with
      | none => rw [he] at h; cases h
      | some r =>
        rw [he] at h
        cases hq2 : eqFs P (eqA P n) fs xs ys with
        | none => rw [hq2] at h; cases h
        | some r2' =>
          rw [hq2] at h
          simp only [Option.some.injEq] at h
          subst h
          have hr := ih f.type p q r c1 c2 ho1 he k1 k2
          simp only [Sem.run_bind, r1, r2, hr, Result.andThen_ok]
          cases r with
          | true => simpa using eqFs_ok ih hx hy fs r2' ho2 hq2
          | false => rfl
    · cases h

theorem eqA_ok : ∀ (n m : Nat) (t : TypeId) (x y : AV) (b : Bool) (u w : Value), okEq P n t = true → eqA P n t x y = some b → Rel E x u → Rel E y w → (Op.equalIn (n + m) t u w).run P E.w = .ok b E.w
  | 0, m, t, x, y, b, u, w, _, h, _, _ => by simp [eqA] at h
  | n + 1, m, t, x, y, b, u, w, ho, h, hx, hy => by
    rw [show n + 1 + m = (n + m) + 1 by omega]
    simp only [eqA] at h
    split at h
    · rename_i k0 k p k' q hu
      simp only [Rel] at hx hy
      subst hx; subst hy
      cases hk : decide (k = k') with
      | false => rw [hk] at h; cases h
      | true =>
        rw [hk] at h
        simp only [cond_true, Option.some.injEq] at h
        have := of_decide_eq_true hk
        subst this; subst h
        simp [Op.equalIn, run_underlying hu]
    · rename_i p q hu
      simp only [Rel] at hx hy
      subst hx; subst hy
      simp only [Option.some.injEq] at h
      subst h
      simp only [Op.equalIn, Sem.run_bind, run_underlying hu, Result.andThen_ok, Sem.run_pure]
      congr 1
      rw [beq_toListBytes, ByteArray.toList_eq, ByteArray.toList_eq]
    · rename_i p q hu
      simp only [Rel] at hx hy
      subst hx; subst hy
      simp only [Option.some.injEq] at h
      subst h
      simp [Op.equalIn, run_underlying hu]
    · rename_i fs xs ys hu
      obtain ⟨us, rfl, hus⟩ := hx
      obtain ⟨ws, rfl, hws⟩ := hy
      simp only [okEq, hu, Bool.and_eq_true, Bool.not_eq_true'] at ho
      have hf : P.fieldsOf t = fs := by simp [Program.fieldsOf, hu]
      rw [run_equalIn_struct E.w (n + m) t us ws (by rw [hf]; exact hu) ho.1, hf]
      exact eqFs_ok (eqA_ok n m) hus hws fs.toList b (by simpa using ho.2) h
    · cases h

theorem op_eqS (H : Good G I B0 E) (hf : FrsOk E F a) (t u : TypeId) (x y : Operand) {g g' : Bool} {xs ys : List AV} {b : Bool} (hx : ev G F x = (g, .agg xs)) (hy : ev G F y = (g', .agg ys)) (h : eqA P 100 t (.agg xs) (.agg ys) = some b)
    (hob : (g && g' && !P.eqGuardType P.depth t && okEq P 100 t) = true) :
    OpOk P G I B0 E a ⟨d, .binOp .eql t x y u, ty, pos, after, gd⟩ true (.bool b) E.h ∧ OpOk P G I B0 E a ⟨d, .binOp .neq t x y u, ty, pos, after, gd⟩ true (.bool !b) E.h := by
  simp only [Bool.and_eq_true, Bool.not_eq_true'] at hob
  obtain ⟨⟨⟨g1, g2⟩, hm⟩, ho⟩ := hob
  have hrx := ev_rel H hf hx g1
  have hry := ev_rel H hf hy g2
  have he := eqA_ok (P := P) (E := E) 100 9900 t _ _ b _ _ ho h hrx hry
  obtain ⟨us, h1, _⟩ := hrx
  obtain ⟨ws, h2, _⟩ := hry
  rw [h1, h2] at he
  have hg := fun op => run_eqGuard_agg (P := P) E.w op t x y us ws hm
  constructor
  · refine OpOk.same H (.bool b) ?_ rfl
    simp only [execOp, h1, h2, Sem.run_bind, hg, Result.andThen_ok]
    rw [run_eql_struct E.w t us ws, he]
    rfl
  · refine OpOk.same H (.bool !b) ?_ rfl
    simp only [execOp, h1, h2, Sem.run_bind, hg, Result.andThen_ok]
    rw [run_neq_struct E.w t us ws, he]
    rfl
end
end Go.Ai
