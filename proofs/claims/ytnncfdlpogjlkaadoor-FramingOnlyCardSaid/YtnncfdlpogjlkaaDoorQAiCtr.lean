/-
  Contracts of functions, for symbolic runs. No statement about the program is made here.
-/
import Derived.Test.YtnncfdlpogjlkaaDoorQAiSym
import Derived.KernelRfl
namespace Go.Ai
set_option linter.unusedVariables false
set_option linter.unusedSimpArgs false
set_option linter.unnecessarySimpa false
open Go.RowKit

abbrev Con := List AV → Hp → (AV → Hp → Prop) → Prop

def ctab (l : List (Nat × Con)) : Tab := fun f => lookN f l

/-- The contract holds of a function. -/
def COk (C : Cfg) (k : Nat) (t : Con) : Prop := ∀ l h K, t (argsOf C k l) h K → ∃ v h', CallR C false k l h v h' ∧ K v h'

theorem ctab_ok {C : Cfg} {l : List (Nat × Con)} (h : ∀ p ∈ l, COk C p.1 p.2) : TabOk C (ctab l) := fun k t ht => h (k, t) (lookN_mem ht)
theorem ctab_nil {C : Cfg} : ∀ p ∈ ([] : List (Nat × Con)), COk C p.1 p.2 := fun _ h => by cases h
theorem ctab_cons {C : Cfg} {k : Nat} {t : Con} {l : List (Nat × Con)} (h1 : COk C k t) (h2 : ∀ p ∈ l, COk C p.1 p.2) : ∀ p ∈ (k, t) :: l, COk C p.1 p.2 := fun p hp => by
  rcases List.mem_cons.1 hp with rfl | hp
  · exact h1
  · exact h2 p hp

section
variable {C : Cfg} {f : FuncId} {body : Code} {T : Tab} {pl : Plan} {Q : Fr → Hp → Prop}

def isLoop : Code → Bool
  | .loop _ => true
  | _ => false

theorem ends_round (hT : TabOk C T) (n : Nat) {p : List Nat} {st : List Fm} {F : Fr} {h : Hp} (hc : isLoop (codeAt body p) = true) (hu : unr C f body T pl Q n (.code (0 :: p) :: .loop p h.length :: st) .normal F h) : ToEnd C f body Q (.code p :: st) .normal F h := by
  cases hb : codeAt body p with
  | loop a => exact fin_loop hb (unr_ok hT n _ _ _ _ hu)
  | _ => rw [hb] at hc; cases hc

/-- What is asked of a function's entry in the configuration: no memory of the caller's. -/
def pureFn (C : Cfg) (k : Nat) (fn : Func) : Prop := (C.ok k && !C.dfr k) = true ∧ C.hprim k = none ∧ C.prim k = none ∧ C.P.funcs[k]? = some fn ∧ fn.body.isSome = true ∧ C.heap k = false
def dfrFn (C : Cfg) (k : Nat) (fn : Func) : Prop := (C.ok k && C.dfr k) = true ∧ C.hprim k = none ∧ C.prim k = none ∧ C.P.funcs[k]? = some fn ∧ fn.body.isSome = true ∧ C.heap k = false
def heapFn (C : Cfg) (k : Nat) (fn : Func) : Prop := (C.ok k && !C.dfr k) = true ∧ C.hprim k = none ∧ C.prim k = none ∧ C.P.funcs[k]? = some fn ∧ fn.body.isSome = true ∧ C.heap k = true

theorem body_some {fn : Func} (h : fn.body.isSome = true) : fn.body = some (bodyOf fn) := by
  unfold bodyOf
  cases hb : fn.body with
  | none => rw [hb] at h; cases h
  | some c => rfl

/-- A function that touches no memory of the caller's: its contract out of a run. -/
theorem cok_pure {k : Nat} {fn : Func} {t : Con} (hp : pureFn C k fn) (H : ∀ vs h K, t vs h K → ∃ v, K v h ∧ ToEnd C k (bodyOf fn) (RetIs C.P fn v) [.code []] .normal (argFr 0 vs) []) : COk C k t := by
  intro l h K ht
  obtain ⟨v, hk, he⟩ := H _ _ _ ht
  obtain ⟨h1, h2, h3, h4, h5, h6⟩ := hp
  simp only [Bool.and_eq_true, Bool.not_eq_true'] at h1
  exact ⟨v, h, call_fin h1.1 h2 h3 h4 (body_some h5) h6 h1.2 he false h, hk⟩

/-- A function that puts off calls, and touches no memory of the caller's. -/
theorem cok_dfr {k : Nat} {fn : Func} {t : Con} {T : Tab} (hT : TabOk C T) (hp : dfrFn C k fn) (H : ∀ vs h K, t vs h K → ∃ v, K v h ∧ ToEnd C k (bodyOf fn) (RetD C T fn fun u h2 => stripR 0 h2 u = v) [.code []] .normal (argFr 0 vs ++ [(dS, true, .dfr [])]) []) : COk C k t := by
  intro l h K ht
  obtain ⟨v, hk, he⟩ := H _ _ _ ht
  obtain ⟨h1, h2, h3, h4, h5, h6⟩ := hp
  simp only [Bool.and_eq_true] at h1
  exact ⟨v, h, call_finD hT h1.1 h2 h3 h4 (body_some h5) h6 h1.2 he false h, hk⟩

theorem cok_heap {k : Nat} {fn : Func} {t : Con} (hp : heapFn C k fn) (H : ∀ vs h K, t vs h K → ToEnd C k (bodyOf fn) (RetIn C.P fn h.length K) [.code []] .normal (argFr 0 vs) h) : COk C k t := by
  intro l h K ht
  obtain ⟨h1, h2, h3, h4, h5, h6⟩ := hp
  simp only [Bool.and_eq_true, Bool.not_eq_true'] at h1
  have ha : argsOf C k l = l := by simp [argsOf, h6]
  rw [ha] at ht
  exact call_fin_heap h1.1 h2 h3 h4 (body_some h5) h6 h1.2 (by rw [ha]; exact H _ _ _ ht)

theorem cok_prim {k : Nat} {g : List AV → Option (Bool × AV)} {t : Con} (h1 : C.ok k = true) (h2 : C.hprim k = none) (h3 : C.prim k = some g) (h4 : C.heap k = false) (H : ∀ vs h K, t vs h K → ∃ v, K (strip 0 [] v) h ∧ g vs = some (true, v)) : COk C k t := by
  intro l h K ht
  obtain ⟨v, hk, hg⟩ := H _ _ _ ht
  exact ⟨_, h, call_prim h1 h2 h3 h4 hg false h, hk⟩
end

theorem wrap_in {n : Int} (h1 : -9223372036854775808 ≤ n) (h2 : n ≤ 9223372036854775807) : IntKind.wrap .i64 n = n := by
  rw [IntKind.wrap_i64]; omega

theorem inR_of {i : Int} {n : Nat} (h1 : 0 ≤ i) (h2 : i < n) : inR i n = true := by simp [inR, h1, h2]
end Go.Ai
