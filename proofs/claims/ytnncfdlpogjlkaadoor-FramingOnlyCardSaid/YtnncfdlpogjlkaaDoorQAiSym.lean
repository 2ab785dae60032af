/-
  Symbolic runs of the evaluator: from a place in a body to the function's end. No statement about the program is made here.
-/
import Derived.Test.YtnncfdlpogjlkaaDoorQAiPrims
namespace Go.Ai
set_option linter.unusedVariables false
set_option linter.unusedSimpArgs false
set_option linter.unnecessarySimpa false
open Go.RowKit

def gAnd (g : Bool) (p : Prop) : Prop := match g with | true => p | false => False
def ifP (b : Bool) (p q : Prop) : Prop := match b with | true => p | false => q

theorem gAnd_intro {g : Bool} {p : Prop} (h : g = true) (k : p) : gAnd g p := by subst h; exact k
theorem ifP_intro {b : Bool} {p q : Prop} (h : b = true → p) (k : b = false → q) : ifP b p q := by
  cases b
  · exact k rfl
  · exact h rfl
theorem gAnd_elim {g : Bool} {p : Prop} (h : gAnd g p) : g = true ∧ p := by
  cases g
  · exact h.elim
  · exact ⟨rfl, h⟩

/-- What is left to be done at a place of a body, the innermost first. -/
inductive Fm where
  | code (p : List Nat)
  | block (id : Nat)
  | loop (p : List Nat) (m : Nat)
  | scope (p : List Nat)
  | ops (p : List Nat) (i : Nat)

def bodyOf (f : Func) : Code := f.body.getD .skip

def child : Nat → Code → Code
  | l + 2, c => (findLabel c l).getD .skip
  | 0, .seq a _ => a
  | 1, .seq _ b => b
  | 0, .cond _ a _ => a
  | 1, .cond _ _ b => b
  | 0, .block _ a => a
  | 0, .loop a => a
  | 0, .scope a => a
  | _, _ => .skip

def codeAt (body : Code) : List Nat → Code
  | [] => body
  | i :: p => child i (codeAt body p)

def ExecR (C : Cfg) (f : FuncId) (c : Code) (F : Fr) (h : Hp) (x : XT) (F' : Fr) (h' : Hp) : Prop := ∃ n0, ∀ n, n0 ≤ n → exec C f n c F h = .ok (x, F', h')
def ScopeR (C : Cfg) (f : FuncId) (c cur : Code) (F : Fr) (h : Hp) (x : XT) (F' : Fr) (h' : Hp) : Prop := ∃ n0, ∀ n, n0 ≤ n → scopeGo C f n c cur F h = .ok (x, F', h')
def OpsR (C : Cfg) (ops : Array Oper) (draw : Bool) (i : Nat) (os : List Oper) (F : Fr) (h : Hp) (F' : Fr) (h' : Hp) : Prop := ∃ n0, ∀ n, n0 ≤ n → execReg C (fun d => call C d n) ops draw i os F h = .ok (F', h')
def CallR (C : Cfg) (draw : Bool) (k : FuncId) (vs : List AV) (h : Hp) (v : AV) (h' : Hp) : Prop := ∃ n0, ∀ n, n0 ≤ n → call C draw n k vs h = .ok (v, h')

def isEnd : XT → Bool
  | .normal | .ret => true
  | _ => false

/-- From here the function comes to its end, as Q says. -/
def ToEnd (C : Cfg) (f : FuncId) (body : Code) (Q : Fr → Hp → Prop) : List Fm → XT → Fr → Hp → Prop
  | [], x, F, h => isEnd x = true ∧ Q F h
  | .code p :: st, .normal, F, h => ∃ x F' h', ExecR C f (codeAt body p) F h x F' h' ∧ ToEnd C f body Q st x F' h'
  | .loop p m :: st, .normal, F, h => match C.trunc f with
    | true => ∃ x F' h', ExecR C f (codeAt body p) (stripF m h F) ((h.take m).map (stripB m h)) x F' h' ∧ ToEnd C f body Q st x F' h'
    | false => ∃ x F' h', ExecR C f (codeAt body p) F h x F' h' ∧ ToEnd C f body Q st x F' h'
  | .ops p i :: st, .normal, F, h => match codeAt body p with
    | .region _ ops draw => ∃ F' h', OpsR C ops draw i (ops.toList.drop i) F h F' h' ∧ ToEnd C f body Q st .normal F' h'
    | _ => False
  | .block id :: st, .exit i, F, h => bif Nat.beq i id then ToEnd C f body Q st .normal F h else ToEnd C f body Q st (.exit i) F h
  | .scope p :: st, .goto l, F, h => match findLabel (codeAt body p) l with
    | some rest => ∃ x F' h', ScopeR C f (codeAt body p) rest F h x F' h' ∧ ToEnd C f body Q st x F' h'
    | none => ToEnd C f body Q st (.goto l) F h
  | _ :: st, x, F, h => ToEnd C f body Q st x F h

section
variable {C : Cfg} {f : FuncId} {body : Code} {Q : Fr → Hp → Prop} {st : List Fm} {p : List Nat} {F F' : Fr} {h h' : Hp}

theorem fin_code {x : XT} (hc : ExecR C f (codeAt body p) F h x F' h') (k : ToEnd C f body Q st x F' h') : ToEnd C f body Q (.code p :: st) .normal F h := ⟨x, F', h', hc, k⟩
theorem exec1 {c : Code} {x : XT} (hs : ∀ n, exec C f (n + 1) c F h = .ok (x, F', h')) : ExecR C f c F h x F' h' := ⟨1, fun n hn => by
  obtain ⟨m, rfl⟩ : ∃ m, n = m + 1 := ⟨n - 1, by omega⟩
  exact hs m⟩

theorem fin_seq {a b : Code} (hc : codeAt body p = .seq a b) (k : ToEnd C f body Q (.code (0 :: p) :: .code (1 :: p) :: st) .normal F h) : ToEnd C f body Q (.code p :: st) .normal F h := by
  obtain ⟨x, F1, h1, ⟨n0, hx⟩, k⟩ := k
  have h0 : codeAt body (0 :: p) = a := by simp [codeAt, child, hc]
  have h1' : codeAt body (1 :: p) = b := by simp [codeAt, child, hc]
  rw [h0] at hx
  cases x with
  | normal =>
    obtain ⟨x2, F2, h2, ⟨m0, hy⟩, k⟩ := k
    rw [h1'] at hy
    refine fin_code ⟨n0 + m0 + 1, fun n hn => ?_⟩ k
    obtain ⟨m, rfl⟩ : ∃ m, n = m + 1 := ⟨n - 1, by omega⟩
    rw [hc]
    simp only [exec, hx m (by omega), hy m (by omega)]
  | _ =>
    simp only [ToEnd] at k
    refine fin_code ⟨n0 + 1, fun n hn => ?_⟩ k
    obtain ⟨m, rfl⟩ : ∃ m, n = m + 1 := ⟨n - 1, by omega⟩
    rw [hc]
    simp only [exec, hx m (by omega)]

theorem fin_cond {y : Operand} {a b : Code} {t : Bool} (hc : codeAt body p = .cond y a b) (hy : ev C.G F y = (true, .bool t))
    (k : ToEnd C f body Q (.code ((match t with | true => 0 | false => 1) :: p) :: st) .normal F h) : ToEnd C f body Q (.code p :: st) .normal F h := by
  obtain ⟨x, F1, h1, ⟨n0, hx⟩, k⟩ := k
  refine fin_code ⟨n0 + 1, fun n hn => ?_⟩ k
  obtain ⟨m, rfl⟩ : ∃ m, n = m + 1 := ⟨n - 1, by omega⟩
  have := hx m (by omega)
  rw [hc]
  simp only [exec, hy]
  cases t <;> simpa [codeAt, child, hc] using this

theorem fin_block {id : Nat} {a : Code} (hc : codeAt body p = .block id a) (k : ToEnd C f body Q (.code (0 :: p) :: .block id :: st) .normal F h) : ToEnd C f body Q (.code p :: st) .normal F h := by
  obtain ⟨x, F1, h1, ⟨n0, hx⟩, k⟩ := k
  have h0 : codeAt body (0 :: p) = a := by simp [codeAt, child, hc]
  rw [h0] at hx
  cases x with
  | exit i =>
    simp only [ToEnd] at k
    cases hb : Nat.beq i id with
    | true =>
      rw [hb] at k
      refine fin_code (x := .normal) ⟨n0 + 1, fun n hn => ?_⟩ k
      obtain ⟨m, rfl⟩ : ∃ m, n = m + 1 := ⟨n - 1, by omega⟩
      rw [hc]
      simp only [exec, hx m (by omega), hb, cond_true]
    | false =>
      rw [hb] at k
      refine fin_code (x := .exit i) ⟨n0 + 1, fun n hn => ?_⟩ k
      obtain ⟨m, rfl⟩ : ∃ m, n = m + 1 := ⟨n - 1, by omega⟩
      rw [hc]
      simp only [exec, hx m (by omega), hb, cond_false]
  | _ =>
    simp only [ToEnd] at k
    refine fin_code ⟨n0 + 1, fun n hn => ?_⟩ k
    obtain ⟨m, rfl⟩ : ∃ m, n = m + 1 := ⟨n - 1, by omega⟩
    rw [hc]
    simp only [exec, hx m (by omega)]

theorem fin_loop {a : Code} (hc : codeAt body p = .loop a) (k : ToEnd C f body Q (.code (0 :: p) :: .loop p h.length :: st) .normal F h) : ToEnd C f body Q (.code p :: st) .normal F h := by
  obtain ⟨x, F1, h1, ⟨n0, hx⟩, k⟩ := k
  have h0 : codeAt body (0 :: p) = a := by simp [codeAt, child, hc]
  rw [h0] at hx
  cases x with
  | normal =>
    simp only [ToEnd] at k
    cases ht : C.trunc f <;> rw [ht] at k <;> obtain ⟨x2, F2, h2, ⟨m0, hy⟩, k⟩ := k <;> rw [hc] at hy <;> refine fin_code ⟨n0 + m0 + 1, fun n hn => ?_⟩ k
    all_goals
      obtain ⟨m, rfl⟩ : ∃ m, n = m + 1 := ⟨n - 1, by omega⟩
      rw [hc]
      simp only [exec, hx m (by omega), ht]
      exact hy m (by omega)
  | _ =>
    simp only [ToEnd] at k
    refine fin_code ⟨n0 + 1, fun n hn => ?_⟩ k
    obtain ⟨m, rfl⟩ : ∃ m, n = m + 1 := ⟨n - 1, by omega⟩
    rw [hc]
    simp only [exec, hx m (by omega)]

theorem scope_run {c cur : Code} {q : List Nat} (hq : codeAt body q = c) {x : XT} {F1 : Fr} {h1 : Hp} (hx : ExecR C f cur F h x F1 h1) (k : ToEnd C f body Q (.scope q :: st) x F1 h1) :
    ∃ x F' h', ScopeR C f c cur F h x F' h' ∧ ToEnd C f body Q st x F' h' := by
  obtain ⟨n0, hx⟩ := hx
  cases x with
  | goto l =>
    simp only [ToEnd, hq] at k
    cases hf : findLabel c l with
    | none =>
      rw [hf] at k
      refine ⟨.goto l, F1, h1, ⟨n0 + 1, fun n hn => ?_⟩, k⟩
      obtain ⟨m, rfl⟩ : ∃ m, n = m + 1 := ⟨n - 1, by omega⟩
      simp only [scopeGo, hx m (by omega), hf]
    | some rest =>
      rw [hf] at k
      obtain ⟨x2, F2, h2, ⟨m0, hy⟩, k⟩ := k
      refine ⟨x2, F2, h2, ⟨n0 + m0 + 1, fun n hn => ?_⟩, k⟩
      obtain ⟨m, rfl⟩ : ∃ m, n = m + 1 := ⟨n - 1, by omega⟩
      simp only [scopeGo, hx m (by omega), hf]
      exact hy m (by omega)
  | _ =>
    simp only [ToEnd] at k
    refine ⟨_, F1, h1, ⟨n0 + 1, fun n hn => ?_⟩, k⟩
    obtain ⟨m, rfl⟩ : ∃ m, n = m + 1 := ⟨n - 1, by omega⟩
    simp only [scopeGo, hx m (by omega)]

theorem fin_scope {a : Code} (hc : codeAt body p = .scope a) (k : ToEnd C f body Q (.code (0 :: p) :: .scope (0 :: p) :: st) .normal F h) : ToEnd C f body Q (.code p :: st) .normal F h := by
  obtain ⟨x, F1, h1, hx, k⟩ := k
  have h0 : codeAt body (0 :: p) = a := by simp [codeAt, child, hc]
  rw [h0] at hx
  obtain ⟨x2, F2, h2, ⟨m0, hy⟩, k⟩ := scope_run h0 hx k
  refine fin_code ⟨m0 + 1, fun n hn => ?_⟩ k
  obtain ⟨m, rfl⟩ : ∃ m, n = m + 1 := ⟨n - 1, by omega⟩
  rw [hc]
  simp only [exec]
  exact hy m (by omega)

theorem fin_jump {l : Nat} (hf : (findLabel (codeAt body p) l).isSome = true) (k : ToEnd C f body Q (.code ((l + 2) :: p) :: .scope p :: st) .normal F h) : ToEnd C f body Q (.scope p :: st) (.goto l) F h := by
  obtain ⟨x, F1, h1, hx, k⟩ := k
  simp only [ToEnd]
  cases hr : findLabel (codeAt body p) l with
  | none => rw [hr] at hf; cases hf
  | some rest =>
    have h0 : codeAt body ((l + 2) :: p) = rest := by simp [codeAt, child, hr]
    rw [h0] at hx
    exact scope_run rfl hx k

theorem fin_region {id : Nat} {ops : Array Oper} {draw : Bool} (hc : codeAt body p = .region id ops draw) (hdf : ((!C.dfr f && hasDef ops.toList) || (draw && !lsOk ops.toList ((C.live f id).map fun s => (s, lk F s)))) = false) (k : ToEnd C f body Q (.ops p 0 :: st) .normal ((C.live f id).map fun s => (s, lk F s)) h) : ToEnd C f body Q (.code p :: st) .normal F h := by
  simp only [ToEnd, hc] at k
  obtain ⟨F1, h1, ⟨n0, hx⟩, k⟩ := k
  refine fin_code (x := .normal) ⟨n0 + 1, fun n hn => ?_⟩ k
  obtain ⟨m, rfl⟩ : ∃ m, n = m + 1 := ⟨n - 1, by omega⟩
  rw [hc]
  have := hx m (by omega)
  simp only [List.drop_zero] at this
  simp only [exec, hdf, this]

theorem fin_op {i id : Nat} {ops : Array Oper} {draw : Bool} {o : Oper} {e : Bool × AV} (hc : codeAt body p = .region id ops draw) (ho : ops[i]? = some o)
    (hs : ∃ n0, ∀ n, n0 ≤ n → stepOp C (call C (drawI C ops draw i) n) ops (drawI C ops draw i) o F h = .ok (e, h')) (k : ToEnd C f body Q (.ops p (i + 1) :: st) .normal (putF F (dstW (drawI C ops draw i) o) e) h') : ToEnd C f body Q (.ops p i :: st) .normal F h := by
  simp only [ToEnd, hc] at k ⊢
  obtain ⟨n0, hs⟩ := hs
  obtain ⟨F1, h1, ⟨m0, hx⟩, k⟩ := k
  refine ⟨F1, h1, ⟨n0 + m0, fun n hn => ?_⟩, k⟩
  have hi : i < ops.toList.length := by
    have := (Array.getElem?_eq_some_iff.1 ho).1
    simpa using this
  have hget : ops.toList[i] = o := by
    have := (Array.getElem?_eq_some_iff.1 ho).2
    simpa using this
  rw [List.drop_eq_getElem_cons hi, hget]
  simp only [execReg, hs n (by omega)]
  exact hx n (by omega)

theorem fin_ops_end {i id : Nat} {ops : Array Oper} {draw : Bool} (hc : codeAt body p = .region id ops draw) (ho : ops[i]? = none) (k : ToEnd C f body Q st .normal F h) : ToEnd C f body Q (.ops p i :: st) .normal F h := by
  simp only [ToEnd, hc]
  refine ⟨F, h, ⟨0, fun n _ => ?_⟩, k⟩
  have : ops.toList.length ≤ i := by
    have := Array.getElem?_eq_none_iff.1 ho
    simpa using this
  rw [List.drop_of_length_le this]
  rfl
end

section
variable {C : Cfg} {f : FuncId}
/-- At a cut the frame may be cut down to what its first region looks at. -/
theorem lk_restrict (F : Fr) (ls : List Nat) : (ls.map fun s => (s, lk (ls.map fun s => (s, lk F s)) s)) = ls.map fun s => (s, lk F s) := by
  have key : ∀ (ms : List Nat) s, s ∈ ms → lk (ms.map fun s => (s, lk F s)) s = lk F s := by
    intro ms
    induction ms with
    | nil => intro s hs; cases hs
    | cons m ms ih =>
      intro s hs
      simp only [List.map_cons, lk]
      cases hb : Nat.beq m s with
      | true => rw [Nat.eq_of_beq_eq_true hb]; rfl
      | false =>
        simp only [cond_false]
        refine ih s ?_
        rcases List.mem_cons.1 hs with e | e
        · subst e; simp [Nat.beq_refl] at hb
        · exact e
  refine List.map_congr_left fun s hs => ?_
  rw [key ls s hs]

def firstReg : Code → Option Nat
  | .seq a _ => firstReg a
  | .block _ a => firstReg a
  | .loop a => firstReg a
  | .region id _ _ => some id
  | _ => none

theorem exec_restrict {id : Nat} : ∀ (n : Nat) (c : Code) (F : Fr) (h : Hp), firstReg c = some id → exec C f n c ((C.live f id).map fun s => (s, lk F s)) h = exec C f n c F h := by
  intro n
  induction n with
  | zero => intro c F h _; rfl
  | succ n ih =>
    intro c F h hc
    cases c <;> simp only [firstReg] at hc
    case seq a b => simp only [exec, ih a F h hc]
    case block i a => simp only [exec, ih a F h hc]
    case loop a => simp only [exec, ih a F h hc]
    case region i ops draw =>
      injection hc with hc
      subst hc
      simp only [exec, lk_restrict]
    all_goals cases hc

end

def cutF (C : Cfg) (f : FuncId) (c : Code) (F : Fr) : Fr := match firstReg c with
  | some id => (C.live f id).map fun s => (s, lk F s)
  | none => F

/-- What callees do, as it is known. -/
abbrev Tab := FuncId → Option (List AV → Hp → (AV → Hp → Prop) → Prop)

def argsOf (C : Cfg) (k : FuncId) (l : List AV) : List AV := match (C.hprim k).isSome || C.heap k with | true => l | false => strips 0 [] l

def TabOk (C : Cfg) (T : Tab) : Prop := ∀ k t, T k = some t → ∀ l h K, t (argsOf C k l) h K → ∃ v h', CallR C false k l h v h' ∧ K v h'

def setF : Fr → Nat → Bool → Fr
  | [], _, _ => []
  | (s, e) :: r, d, b => bif Nat.beq s d then (s, true, .bool b) :: r else (s, e) :: setF r d b

def setO (F : Fr) (y : Operand) (b : Bool) : Fr := match y with
  | .tmp t => setF F t b
  | _ => F

theorem setF_eq : ∀ {F : Fr} {d : Nat} {b : Bool}, lk F d = (true, .bool b) → setF F d b = F
  | [], d, b, h => by simp [lk] at h
  | (s, e) :: r, d, b, h => by
    simp only [lk] at h
    simp only [setF]
    cases hb : Nat.beq s d with
    | true => rw [hb] at h; simp only [cond_true] at h ⊢; rw [h]
    | false => rw [hb] at h; simp only [cond_false] at h ⊢; rw [setF_eq h]

mutual
/-- Values that hold nothing of blocks from a number on. -/
def lowV (n : Nat) : AV → Bool
  | .ptr b _ => Nat.blt b n
  | .osl b _ _ _ => Nat.blt b n
  | .itr b => Nat.blt b n
  | .ro cs => lowVs n cs
  | .sl _ es own => lowVss n es && (match own with | some id => Nat.blt id n | none => true)
  | .fn _ a c => lowVs n a && lowVs n c
  | .iface _ v => lowV n v
  | .agg cs => lowVs n cs
  | .tup cs => lowVs n cs
  | .dfr cs => lowVs n cs
  | _ => true
def lowVs (n : Nat) : List AV → Bool
  | [] => true
  | v :: r => lowV n v && lowVs n r
def lowVss (n : Nat) : List (List AV) → Bool
  | [] => true
  | v :: r => lowVs n v && lowVss n r
end

mutual
theorem strip_low (n : Nat) (h : Hp) : ∀ x, lowV n x = true → strip n h x = x
  | .top, _ => rfl
  | .bool _, _ => rfl
  | .int _ _, _ => rfl
  | .str _, _ => rfl
  | .nilp, _ => rfl
  | .ptr b o, hp => by simp only [lowV] at hp; simp only [strip, hp, cond_true]
  | .ro cs, hp => by rw [strip, strips_low n h cs (by simpa [lowV] using hp)]
  | .sl sz es own, hp => by
    simp only [lowV, Bool.and_eq_true] at hp
    rw [strip_sl, stripss_low n h es hp.1]
    cases own with
    | none => rfl
    | some id => simp only [keepId, hp.2, cond_true]
  | .osl b o l s, hp => by simp only [lowV] at hp; simp only [strip, hp, cond_true]
  | .itr b, hp => by simp only [lowV] at hp; simp only [strip, hp, cond_true]
  | .fn f a c, hp => by
    simp only [lowV, Bool.and_eq_true] at hp
    rw [strip, strips_low n h a hp.1, strips_low n h c hp.2]
  | .nilf, _ => rfl
  | .iface t v, hp => by rw [strip, strip_low n h v (by simpa [lowV] using hp)]
  | .nili, _ => rfl
  | .agg cs, hp => by rw [strip, strips_low n h cs (by simpa [lowV] using hp)]
  | .tup cs, hp => by rw [strip, strips_low n h cs (by simpa [lowV] using hp)]
  | .dfr cs, hp => by rw [strip, strips_low n h cs (by simpa [lowV] using hp)]
theorem strips_low (n : Nat) (h : Hp) : ∀ xs, lowVs n xs = true → strips n h xs = xs
  | [], _ => rfl
  | x :: xs, hp => by
    simp only [lowVs, Bool.and_eq_true] at hp
    rw [strips, strip_low n h x hp.1, strips_low n h xs hp.2]
theorem stripss_low (n : Nat) (h : Hp) : ∀ xs, lowVss n xs = true → stripss n h xs = xs
  | [], _ => rfl
  | x :: xs, hp => by
    simp only [lowVss, Bool.and_eq_true] at hp
    rw [stripss, strips_low n h x hp.1, stripss_low n h xs hp.2]
end

def topT (n : Nat) : AV → AV
  | .ptr b o => match Nat.blt b n with | true => .ptr b o | false => .top
  | .osl b o l s => match Nat.blt b n with | true => .osl b o l s | false => .top
  | .sl sz es (some id) => match Nat.blt id n with | true => .sl sz es (some id) | false => .sl sz es none
  | v => v

theorem strip_top (n : Nat) (h : Hp) {v : AV} (hl : lowV n (topT n v) = true) : strip n h v = topT n v := by
  have key : ∀ v, lowV n v = true → topT n v = v → strip n h v = v := fun v h1 _ => strip_low n h v h1
  cases v with
  | ptr b o =>
    simp only [topT, strip]
    cases Nat.blt b n <;> rfl
  | osl b o l s =>
    simp only [topT, strip]
    cases Nat.blt b n <;> rfl
  | sl sz es own =>
    cases own with
    | none => exact strip_low n h _ hl
    | some id =>
      simp only [topT] at hl ⊢
      rw [strip_sl]
      cases hb : Nat.blt id n with
      | true =>
        rw [hb] at hl
        simp only [lowV, Bool.and_eq_true] at hl
        rw [stripss_low n h es hl.1]
        simp only [keepId, hb, cond_true]
      | false =>
        rw [hb] at hl
        simp only [lowV, Bool.and_eq_true] at hl
        rw [stripss_low n h es hl.1]
        simp only [keepId, hb, cond_false]
  | _ => exact strip_low n h _ hl

def topF (n : Nat) : Fr → Fr
  | [] => []
  | e :: r => (e.1, e.2.1, topT n e.2.2) :: topF n r
def lowF (n : Nat) : Fr → Bool
  | [] => true
  | e :: r => lowV n e.2.2 && lowF n r
def topVs (n : Nat) : List AV → List AV
  | [] => []
  | v :: r => topT n v :: topVs n r
def topB (n : Nat) : Blk → Blk
  | .mem t cs => .mem t (topVs n cs)
  | b => b
def lowB (n : Nat) : Blk → Bool
  | .mem _ cs => lowVs n cs
  | _ => true
def topBs (n : Nat) : Hp → Hp
  | [] => []
  | b :: r => topB n b :: topBs n r
def lowBs (n : Nat) : Hp → Bool
  | [] => true
  | b :: r => lowB n b && lowBs n r

theorem topF_eq (n : Nat) (h : Hp) : ∀ {F : Fr}, lowF n (topF n F) = true → stripF n h F = topF n F
  | [], _ => rfl
  | e :: r, hl => by
    simp only [topF, lowF, Bool.and_eq_true] at hl
    show (e.1, e.2.1, strip n h e.2.2) :: stripF n h r = _
    rw [strip_top n h hl.1, topF_eq n h hl.2, topF]
theorem topVs_eq (n : Nat) (h : Hp) : ∀ {cs : List AV}, lowVs n (topVs n cs) = true → strips n h cs = topVs n cs
  | [], _ => rfl
  | v :: r, hl => by
    simp only [topVs, lowVs, Bool.and_eq_true] at hl
    rw [strips, strip_top n h hl.1, topVs_eq n h hl.2, topVs]
theorem topBs_eq (n : Nat) (h : Hp) : ∀ {bs : Hp}, lowBs n (topBs n bs) = true → bs.map (stripB n h) = topBs n bs
  | [], _ => rfl
  | b :: r, hl => by
    simp only [topBs, lowBs, Bool.and_eq_true] at hl
    rw [List.map_cons, topBs_eq n h hl.2, topBs]
    congr 1
    cases b with
    | mem t cs =>
      have := hl.1
      simp only [topB, lowB] at this
      simp only [stripB, topB, topVs_eq n h this]
    | _ => rfl

/-- The forms of cells. -/
inductive Sh where
  | int (k : IntKind)
  | str
  | bool
  | sl (sz : Nat)
  | av
def exShape : List Sh → (List AV → Prop) → Prop
  | [], K => K []
  | .int k :: r, K => ∃ z : Int, exShape r (fun l => K (.int k z :: l))
  | .str :: r, K => ∃ s : List UInt8, exShape r (fun l => K (.str s :: l))
  | .bool :: r, K => ∃ b : Bool, exShape r (fun l => K (.bool b :: l))
  | .sl sz :: r, K => ∃ es : List (List AV), exShape r (fun l => K (.sl sz es none :: l))
  | .av :: r, K => ∃ v : AV, exShape r (fun l => K (v :: l))

theorem exShape_elim : ∀ {l : List Sh} {K : List AV → Prop}, exShape l K → ∃ cs, K cs
  | [], _, h => ⟨_, h⟩
  | .int k :: r, _, h => by obtain ⟨z, h⟩ := h; obtain ⟨cs, h⟩ := exShape_elim h; exact ⟨_, h⟩
  | .str :: r, _, h => by obtain ⟨z, h⟩ := h; obtain ⟨cs, h⟩ := exShape_elim h; exact ⟨_, h⟩
  | .bool :: r, _, h => by obtain ⟨z, h⟩ := h; obtain ⟨cs, h⟩ := exShape_elim h; exact ⟨_, h⟩
  | .sl sz :: r, _, h => by obtain ⟨z, h⟩ := h; obtain ⟨cs, h⟩ := exShape_elim h; exact ⟨_, h⟩
  | .av :: r, _, h => by obtain ⟨z, h⟩ := h; obtain ⟨cs, h⟩ := exShape_elim h; exact ⟨_, h⟩

structure Plan where
  cuts : List (List Nat)
  shapes : List (List Nat × Nat × List Sh)

def beqP : List Nat → List Nat → Bool
  | [], [] => true
  | a :: r, b :: s => Nat.beq a b && beqP r s
  | _, _ => false

def inCuts : List (List Nat) → List Nat → Bool
  | [], _ => false
  | q :: r, p => beqP q p || inCuts r p

def lookSh : List (List Nat × Nat × List Sh) → List Nat → Nat → Option (List Sh)
  | [], _, _ => none
  | (q, j, s) :: r, p, i => bif beqP q p && Nat.beq j i then some s else lookSh r p i

def indexS (C : Cfg) (F : Fr) (h : Hp) (o : Oper) (s : List Sh) (next : (Bool × AV) → Hp → Prop) : Prop :=
  match o.op with
  | .indexAddr t x i =>
    match C.P.underlying t, ev C.G F x, ev C.G F i with
    | some (.slice e), (g, .sl sz es _), (g', .int _ n) =>
      gAnd (g && g' && inR n es.length && Nat.beq sz (C.P.cellsOf e) && Nat.ble 1 sz) (exShape s fun cs => getE es n = cs ∧ next (true, .ro cs) h)
    | _, _, _ => False
  | _ => False

/-- One operation that is done. -/
def doOp (C : Cfg) (T : Tab) (draw : Bool) (F : Fr) (h : Hp) (o : Oper) (next : (Bool × AV) → Hp → Prop) : Prop :=
  match o.op with
  | .call { callee := .value x, args, argTypes := _ } =>
    match ev C.G F x, evs C.G F args.toList with
    | (true, .fn (.func k) first cap), (true, vs) =>
      match C.ident k, first ++ vs ++ cap with
      | true, [v] => next (true, v) h
      | true, _ => False
      | false, l =>
        match draw && ((C.hprim k).isSome || C.heap k) with
        | true => False
        | false => match T k with
          | some t => t (argsOf C k l) h fun v h' => next (true, v) h'
          | none => False
    | _, _ => False
  | .defer { callee := .value x, args, argTypes := _ } =>
    match draw || !isDef o || o.dst.isSome || !args.toList.isEmpty, ev C.G F x, lk F dS with
    | false, (true, .fn f first cap), (_, .dfr l) => next (true, .dfr (.fn f first cap :: l)) h
    | _, _, _ => False
  | _ =>
    match evalOp C (draw || o.guard.isSome) F h o with
    | some (g, e, h') => gAnd g (next e h')
    | none => False

/-- What is read from memory of the call's own, by its form. -/
def loadS (C : Cfg) (F : Fr) (h : Hp) (o : Oper) (s : List Sh) (next : (Bool × AV) → Hp → Prop) : Prop :=
  match o.op with
  | .load t x =>
    match isAggT C.P t, C.P.underlying t, C.P.info? t, ev C.G F x with
    | false, some _, some _, (g, .ptr b off) =>
      match h[b]? with
      | some (.mem _ cs) => gAnd g (exShape s fun l => (cs.drop off).take 1 = l ∧ match l with | [v] => next (true, v) h | _ => False)
      | _ => False
    | _, _, _, _ => False
  | _ => False

def isLoad : Op → Bool
  | .load .. => true
  | _ => false

def doOpS (C : Cfg) (T : Tab) (draw : Bool) (F : Fr) (h : Hp) (o : Oper) (s : Option (List Sh)) (next : (Bool × AV) → Hp → Prop) : Prop :=
  match s with
  | some s => match isLoad o.op with
    | true => loadS C F h o s next
    | false => indexS C F h o s next
  | none => doOp C T draw F h o next

/-- The run, unrolled so far; it stops at cuts. -/
def unr (C : Cfg) (f : FuncId) (body : Code) (T : Tab) (pl : Plan) (Q : Fr → Hp → Prop) : Nat → List Fm → XT → Fr → Hp → Prop
  | 0, st, x, F, h => ToEnd C f body Q st x F h
  | n + 1, [], x, F, h => match isEnd x with | true => Q F h | false => False
  | n + 1, .code p :: st, .normal, F, h =>
    match inCuts pl.cuts p with
    | true => ToEnd C f body Q (.code p :: st) .normal (cutF C f (codeAt body p) F) h
    | false =>
      match codeAt body p with
      | .skip => unr C f body T pl Q n st .normal F h
      | .label _ => unr C f body T pl Q n st .normal F h
      | .ret => unr C f body T pl Q n st .ret F h
      | .exit id => unr C f body T pl Q n st (.exit id) F h
      | .goto l => unr C f body T pl Q n st (.goto l) F h
      | .seq _ _ => unr C f body T pl Q n (.code (0 :: p) :: .code (1 :: p) :: st) .normal F h
      | .cond y _ _ =>
        match ev C.G F y with
        | (true, .bool b) => ifP b (unr C f body T pl Q n (.code (0 :: p) :: st) .normal (setO F y true) h) (unr C f body T pl Q n (.code (1 :: p) :: st) .normal (setO F y false) h)
        | _ => False
      | .block id _ => unr C f body T pl Q n (.code (0 :: p) :: .block id :: st) .normal F h
      | .loop _ => unr C f body T pl Q n (.code (0 :: p) :: .loop p h.length :: st) .normal F h
      | .scope _ => unr C f body T pl Q n (.code (0 :: p) :: .scope (0 :: p) :: st) .normal F h
      | .region id ops draw => match (!C.dfr f && hasDef ops.toList) || (draw && !lsOk ops.toList ((C.live f id).map fun s => (s, lk F s))) with
        | true => False
        | false => unr C f body T pl Q n (.ops p 0 :: st) .normal ((C.live f id).map fun s => (s, lk F s)) h
      | _ => False
  | n + 1, .loop p m :: st, .normal, F, h => match C.trunc f with
    | false => unr C f body T pl Q n (.code p :: st) .normal F h
    | true => gAnd (lowF m (topF m (cutF C f (codeAt body p) F)) && lowBs m (topBs m (h.take m)))
        (unr C f body T pl Q n (.code p :: st) .normal (topF m (cutF C f (codeAt body p) F)) (topBs m (h.take m)))
  | n + 1, .block id :: st, .exit i, F, h => match Nat.beq i id with | true => unr C f body T pl Q n st .normal F h | false => unr C f body T pl Q n st (.exit i) F h
  | n + 1, .scope p :: st, .goto l, F, h => match (findLabel (codeAt body p) l).isSome with
    | true => unr C f body T pl Q n (.code ((l + 2) :: p) :: .scope p :: st) .normal F h
    | false => unr C f body T pl Q n st (.goto l) F h
  | n + 1, .ops p i :: st, .normal, F, h =>
    match codeAt body p with
    | .region _ ops draw =>
      match ops[i]? with
      | none => unr C f body T pl Q n st .normal F h
      | some o =>
        match o.guard with
        | none => doOpS C T (drawI C ops draw i) F h o (lookSh pl.shapes p i) fun e h' => unr C f body T pl Q n (.ops p (i + 1) :: st) .normal (putF F (dstW (drawI C ops draw i) o) e) h'
        | some (j, want) =>
          match (ops[j]?).bind (·.dst) with
          | none => False
          | some d =>
            match lk F d with
            | (true, .bool b) =>
              ifP b
                (match want with
                | true => doOpS C T (drawI C ops draw i) (setF F d true) h o (lookSh pl.shapes p i) fun e h' => unr C f body T pl Q n (.ops p (i + 1) :: st) .normal (putF (setF F d true) o.dst e) h'
                | false => unr C f body T pl Q n (.ops p (i + 1) :: st) .normal (putF (setF F d true) o.dst (false, .top)) h)
                (match want with
                | true => unr C f body T pl Q n (.ops p (i + 1) :: st) .normal (putF (setF F d false) o.dst (false, .top)) h
                | false => doOpS C T (drawI C ops draw i) (setF F d false) h o (lookSh pl.shapes p i) fun e h' => unr C f body T pl Q n (.ops p (i + 1) :: st) .normal (putF (setF F d false) o.dst e) h')
            | (false, _) => unr C f body T pl Q n (.ops p (i + 1) :: st) .normal (putF F o.dst (false, .top)) h
            | _ => False
    | _ => False
  | n + 1, _ :: st, x, F, h => unr C f body T pl Q n st x F h

section
variable {C : Cfg} {f : FuncId} {body : Code} {T : Tab} {pl : Plan} {Q : Fr → Hp → Prop}

theorem exec_cutF (n : Nat) (c : Code) (F : Fr) (h : Hp) : exec C f n c (cutF C f c F) h = exec C f n c F h := by
  unfold cutF
  split
  · exact exec_restrict n c F h (by assumption)
  · rfl
theorem exec_cutS (n : Nat) (c : Code) (m : Nat) (h : Hp) (F : Fr) (h1 : Hp) : exec C f n c (stripF m h (cutF C f c F)) h1 = exec C f n c (stripF m h F) h1 := by
  rw [← exec_cutF n c (stripF m h F) h1]
  unfold cutF
  split
  · congr 1
    unfold stripF
    rw [List.map_map]
    refine List.map_congr_left fun s _ => ?_
    have := lk_stripF m h F s
    unfold stripF at this
    rw [this]
    rfl
  · rfl
theorem fin_cutF {p : List Nat} {st : List Fm} {F : Fr} {h : Hp} (k : ToEnd C f body Q (.code p :: st) .normal (cutF C f (codeAt body p) F) h) : ToEnd C f body Q (.code p :: st) .normal F h := by
  obtain ⟨x, F1, h1, ⟨n0, hx⟩, k⟩ := k
  exact ⟨x, F1, h1, ⟨n0, fun n hn => by rw [← exec_cutF n _ F h]; exact hx n hn⟩, k⟩

theorem call_draw {k : FuncId} (hk : ((C.hprim k).isSome || C.heap k) = false) (draw : Bool) (n : Nat) (l : List AV) (h : Hp) : call C draw n k l h = call C false n k l h := by
  simp only [Bool.or_eq_false_iff, Option.isSome_eq_false_iff, Option.isNone_iff_eq_none] at hk
  cases n with
  | zero => rfl
  | succ n => simp only [call, hk.1, hk.2]

theorem doOp_ok (hT : TabOk C T) {draw : Bool} {F : Fr} {h : Hp} {o : Oper} {next : (Bool × AV) → Hp → Prop} (hd : doOp C T draw F h o next) :
    ∃ e h', (∃ n0, ∀ n, n0 ≤ n → stepGo C (call C draw n) draw o F h = .ok (e, h')) ∧ next e h' := by
  unfold doOp at hd
  split at hd
  · rename_i x args ts hop
    split at hd
    · rename_i k first cap vs hx hvs
      split at hd
      · rename_i v hid hl
        refine ⟨(true, v), h, ⟨0, fun n _ => ?_⟩, hd⟩
        simp only [stepGo, hop, hx, hvs, hid, hl]
      · exact hd.elim
      · rename_i hid
        split at hd
        · exact hd.elim
        · rename_i hdr
          cases ht : T k with
          | none => rw [ht] at hd; exact hd.elim
          | some t =>
            rw [ht] at hd
            obtain ⟨v, h', ⟨n0, hc⟩, hn⟩ := hT k t ht _ _ _ hd
            refine ⟨(true, v), h', ⟨n0, fun n hn => ?_⟩, hn⟩
            have hcl : call C draw n k (first ++ vs ++ cap) h = .ok (v, h') := by
              cases draw with
              | false => exact hc n hn
              | true => rw [call_draw (by simpa using hdr)]; exact hc n hn
            simp only [stepGo, hop, hx, hvs, hid, hcl]
    · exact hd.elim
  · rename_i x args ts hop
    split at hd
    · rename_i fn first cap b l hc hx hl
      refine ⟨_, h, ⟨0, fun n _ => ?_⟩, hd⟩
      simp only [stepGo, hop, hc, hx, hl]
    · exact hd.elim
  · rename_i hop hop2
    split at hd
    · rename_i g e h' hev
      obtain ⟨rfl, hn⟩ := gAnd_elim hd
      refine ⟨e, h', ⟨0, fun n _ => ?_⟩, hn⟩
      obtain ⟨dst, op, ty, pos, after, gd⟩ := o
      unfold stepGo
      split
      · rename_i x args ts hop'
        exact absurd hop' (hop x args ts)
      · rename_i x args ts hop'
        exact absurd hop' (hop2 x args ts)
      · simp only [hev]
    · exact hd.elim

theorem indexS_ok {draw : Bool} {F : Fr} {h : Hp} {o : Oper} {s : List Sh} {next : (Bool × AV) → Hp → Prop} (hd : indexS C F h o s next) :
    ∃ e h', (∃ n0, ∀ n, n0 ≤ n → stepGo C (call C draw n) draw o F h = .ok (e, h')) ∧ next e h' := by
  unfold indexS at hd
  split at hd
  · rename_i t x i hop
    split at hd
    · rename_i e g sz es own g' ik n hu hx hi
      obtain ⟨hg, hd⟩ := gAnd_elim hd
      obtain ⟨cs, hcs, hn⟩ := exShape_elim hd
      subst hcs
      refine ⟨_, h, ⟨0, fun n _ => ?_⟩, hn⟩
      obtain ⟨dst, op, ty, pos, after, gd⟩ := o
      simp only at hop
      subst hop
      simp only [stepGo, evalOp, evIndexAddr, hu, hx, hi, hg]
    · exact hd.elim
  · exact hd.elim

theorem loadS_ok {draw : Bool} {F : Fr} {h : Hp} {o : Oper} {s : List Sh} {next : (Bool × AV) → Hp → Prop} (hd : loadS C F h o s next) :
    ∃ e h', (∃ n0, ∀ n, n0 ≤ n → stepGo C (call C draw n) draw o F h = .ok (e, h')) ∧ next e h' := by
  unfold loadS at hd
  split at hd
  · rename_i t x hop
    split at hd
    · rename_i u ti g b off ha hu hi hx
      split at hd
      · rename_i t0 cs hb
        obtain ⟨hg, hd⟩ := gAnd_elim hd
        obtain ⟨l, hl, hn⟩ := exShape_elim hd
        subst hl
        split at hn
        · rename_i v hv
          refine ⟨_, h, ⟨0, fun n _ => ?_⟩, hn⟩
          obtain ⟨dst, op, ty, pos, after, gd⟩ := o
          simp only at hop
          subst hop
          subst hg
          have hc : ∃ r, cs.drop off = v :: r := by
            cases hcs : cs.drop off with
            | nil => rw [hcs] at hv; cases hv
            | cons c r => rw [hcs] at hv; simp at hv; exact ⟨r, by rw [hv]⟩
          obtain ⟨r, hc⟩ := hc
          simp only [stepGo, evalOp, evLoad, hx, hb, rd, hu, hi, ha, hc]
        · exact hn.elim
      · exact hd.elim
    · exact hd.elim
  · exact hd.elim

theorem doOpS_ok (hT : TabOk C T) {draw : Bool} {F : Fr} {h : Hp} {o : Oper} {s : Option (List Sh)} {next : (Bool × AV) → Hp → Prop} (hd : doOpS C T draw F h o s next) :
    ∃ e h', (∃ n0, ∀ n, n0 ≤ n → stepGo C (call C draw n) draw o F h = .ok (e, h')) ∧ next e h' := by
  cases s with
  | none => exact doOp_ok hT hd
  | some s =>
    simp only [doOpS] at hd
    split at hd
    · exact loadS_ok hd
    · exact indexS_ok hd

theorem unr_ok (hT : TabOk C T) : ∀ (n : Nat) (st : List Fm) (x : XT) (F : Fr) (h : Hp), unr C f body T pl Q n st x F h → ToEnd C f body Q st x F h := by
  intro n
  induction n with
  | zero => intro st x F h hu; exact hu
  | succ n ih =>
    intro st x F h hu
    cases st with
    | nil =>
      simp only [unr] at hu
      split at hu
      · exact ⟨by assumption, hu⟩
      · exact hu.elim
    | cons fm st =>
      cases fm with
      | code p =>
        cases x with
        | normal =>
          simp only [unr] at hu
          split at hu
          · exact fin_cutF hu
          · split at hu
            · rename_i hc
              exact fin_code (exec1 fun m => by rw [hc]; rfl) (ih _ _ _ _ hu)
            · rename_i hc
              exact fin_code (exec1 fun m => by rw [hc]; rfl) (ih _ _ _ _ hu)
            · rename_i hc
              exact fin_code (exec1 fun m => by rw [hc]; rfl) (ih _ _ _ _ hu)
            · rename_i hc
              exact fin_code (exec1 fun m => by rw [hc]; rfl) (ih _ _ _ _ hu)
            · rename_i hc
              exact fin_code (exec1 fun m => by rw [hc]; rfl) (ih _ _ _ _ hu)
            · rename_i hc
              exact fin_seq hc (ih _ _ _ _ hu)
            · rename_i y a b hc
              split at hu
              · rename_i t hy
                have hset : setO F y t = F := by
                  cases y with
                  | tmp s => exact setF_eq hy
                  | _ => rfl
                refine fin_cond hc hy ?_
                cases t with
                | true => simp only [ifP] at hu; rw [hset] at hu; exact ih _ _ _ _ hu
                | false => simp only [ifP] at hu; rw [hset] at hu; exact ih _ _ _ _ hu
              · exact hu.elim
            · rename_i hc
              exact fin_block hc (ih _ _ _ _ hu)
            · rename_i hc
              exact fin_loop hc (ih _ _ _ _ hu)
            · rename_i hc
              exact fin_scope hc (ih _ _ _ _ hu)
            · rename_i hc
              split at hu
              · exact hu.elim
              · rename_i hdf
                exact fin_region hc hdf (ih _ _ _ _ hu)
            · exact hu.elim
        | _ =>
          simp only [unr] at hu
          simp only [ToEnd]
          exact ih _ _ _ _ hu
      | block id =>
        cases x with
        | exit i =>
          simp only [unr] at hu
          simp only [ToEnd]
          cases hb : Nat.beq i id with
          | true => rw [hb] at hu; exact ih _ _ _ _ hu
          | false => rw [hb] at hu; exact ih _ _ _ _ hu
        | _ =>
          simp only [unr] at hu
          simp only [ToEnd]
          exact ih _ _ _ _ hu
      | loop p m =>
        cases x with
        | normal =>
          simp only [unr] at hu
          simp only [ToEnd]
          cases ht : C.trunc f with
          | false =>
            rw [ht] at hu
            exact ih (.code p :: st) .normal F h hu
          | true =>
            rw [ht] at hu
            obtain ⟨hl, hu⟩ := gAnd_elim hu
            rw [Bool.and_eq_true] at hl
            have hk := ih (.code p :: st) .normal _ _ hu
            rw [← topF_eq m h hl.1, ← topBs_eq m h hl.2] at hk
            obtain ⟨x1, F1, h1, ⟨n0, hx⟩, k⟩ := hk
            refine ⟨x1, F1, h1, ⟨n0, fun n hn => ?_⟩, k⟩
            rw [← hx n hn]
            exact (exec_cutS n _ m h F _).symm
        | _ =>
          simp only [unr] at hu
          simp only [ToEnd]
          exact ih _ _ _ _ hu
      | scope p =>
        cases x with
        | goto l =>
          simp only [unr] at hu
          cases hf : (findLabel (codeAt body p) l).isSome with
          | true => rw [hf] at hu; exact fin_jump hf (ih _ _ _ _ hu)
          | false =>
            rw [hf] at hu
            simp only [Option.isSome_eq_false_iff, Option.isNone_iff_eq_none] at hf
            simp only [ToEnd, hf]
            exact ih _ _ _ _ hu
        | _ =>
          simp only [unr] at hu
          simp only [ToEnd]
          exact ih _ _ _ _ hu
      | ops p i =>
        cases x with
        | normal =>
          simp only [unr] at hu
          split at hu
          · rename_i id ops draw hc
            split at hu
            · rename_i ho
              exact fin_ops_end hc ho (ih _ _ _ _ hu)
            · rename_i o ho
              have done : ∀ F, guardOf ops F o = some true → doOpS C T (drawI C ops draw i) F h o (lookSh pl.shapes p i) (fun e h' => unr C f body T pl Q n (.ops p (i + 1) :: st) .normal (putF F (dstW (drawI C ops draw i) o) e) h') → ToEnd C f body Q (.ops p i :: st) .normal F h := by
                intro F hg hd
                obtain ⟨e, h', ⟨n0, hs⟩, hn⟩ := doOpS_ok hT hd
                refine fin_op hc ho ⟨n0, fun n hn => ?_⟩ (ih _ _ _ _ hn)
                simp only [stepOp, hg, hs n hn]
              have hdw : o.guard.isSome = true → dstW (drawI C ops draw i) o = o.dst := by
                intro hgs
                have : isDef o = false := by
                  unfold isDef
                  split
                  · rename_i hgn
                    rw [hgn] at hgs; cases hgs
                  · rfl
                cases drawI C ops draw i <;> simp [dstW, this]
              have left : ∀ F, o.guard.isSome = true → guardOf ops F o = some false → unr C f body T pl Q n (.ops p (i + 1) :: st) .normal (putF F o.dst (false, .top)) h → ToEnd C f body Q (.ops p i :: st) .normal F h := by
                intro F hgs hg hd
                rw [← hdw hgs] at hd
                refine fin_op hc ho ⟨0, fun n hn => ?_⟩ (ih _ _ _ _ hd)
                simp only [stepOp, hg]
              split at hu
              · rename_i hgd
                exact done F (by simp only [guardOf, hgd]) hu
              · rename_i j want hgd
                have hgs : o.guard.isSome = true := by rw [hgd]; rfl
                rw [← hdw hgs] at hu
                split at hu
                · exact hu.elim
                · rename_i d hj
                  split at hu
                  · rename_i b hl
                    have hset := setF_eq hl
                    have hg : guardOf ops F o = some (b == want) := by simp [guardOf, hgd, hj, hl]
                    cases b with
                    | true =>
                      simp only [ifP] at hu
                      rw [hset] at hu
                      cases want with
                      | true => exact done F (by rw [hg]; rfl) hu
                      | false => exact left F hgs (by rw [hg]; rfl) (by rw [← hdw hgs]; exact hu)
                    | false =>
                      simp only [ifP] at hu
                      rw [hset] at hu
                      cases want with
                      | true => exact left F hgs (by rw [hg]; rfl) (by rw [← hdw hgs]; exact hu)
                      | false => exact done F (by rw [hg]; rfl) hu
                  · rename_i v hl
                    refine left F hgs ?_ (by rw [← hdw hgs]; exact hu)
                    simp only [guardOf, hgd, hj, hl]
                    cases v <;> rfl
                  · exact hu.elim
          · exact hu.elim
        | _ =>
          simp only [unr] at hu
          simp only [ToEnd]
          exact ih _ _ _ _ hu

/-- A run with no effect on memory. -/
def RetIs (P : Program) (fn : Func) (v : AV) (F : Fr) (h' : Hp) : Prop := match result P fn F h' with
  | some u => stripR 0 h' u = v
  | none => False
def RetIn (P : Program) (fn : Func) (n : Nat) (K : AV → Hp → Prop) (F : Fr) (h' : Hp) : Prop := match result P fn F h' with
  | some u => K (stripR n h' u) ((h'.take n).map (stripB n h'))
  | none => False

theorem call_fin {k : FuncId} {fn : Func} {c : Code} (hok : C.ok k = true) (hh : C.hprim k = none) (hp : C.prim k = none) (hf : C.P.funcs[k]? = some fn) (hb : fn.body = some c) (hheap : C.heap k = false) (hdf : C.dfr k = false)
    {l : List AV} {v : AV} (hr : ToEnd C k c (RetIs C.P fn v) [.code []] .normal (argFr 0 (argsOf C k l)) []) (draw : Bool) (h : Hp) : CallR C draw k l h v h := by
  obtain ⟨x, F', h', ⟨n0, hx⟩, he, hq⟩ := hr
  have ha : argsOf C k l = strips 0 [] l := by simp [argsOf, hh, hheap]
  rw [ha] at hx
  simp only [codeAt] at hx
  refine ⟨n0 + 1, fun n hn => ?_⟩
  obtain ⟨m, rfl⟩ : ∃ m, n = m + 1 := ⟨n - 1, by omega⟩
  unfold RetIs at hq
  split at hq
  · rename_i u hu
    subst hq
    cases x with
    | normal => simp only [call, hok, hh, hp, hf, hb, hheap, frame0, finish, hdf, hx m (by omega), hu, Bool.not_true, cond_false]
    | ret => simp only [call, hok, hh, hp, hf, hb, hheap, frame0, finish, hdf, hx m (by omega), hu, Bool.not_true, cond_false]
    | _ => cases he
  · exact hq.elim

theorem call_fin_heap {k : FuncId} {fn : Func} {c : Code} (hok : C.ok k = true) (hh : C.hprim k = none) (hp : C.prim k = none) (hf : C.P.funcs[k]? = some fn) (hb : fn.body = some c) (hheap : C.heap k = true) (hdf : C.dfr k = false)
    {l : List AV} {h : Hp} {K : AV → Hp → Prop} (hr : ToEnd C k c (RetIn C.P fn h.length K) [.code []] .normal (argFr 0 (argsOf C k l)) h) : ∃ v h', CallR C false k l h v h' ∧ K v h' := by
  obtain ⟨x, F', h', ⟨n0, hx⟩, he, hq⟩ := hr
  have ha : argsOf C k l = l := by simp [argsOf, hheap]
  rw [ha] at hx
  simp only [codeAt] at hx
  unfold RetIn at hq
  split at hq
  · rename_i u hu
    refine ⟨_, _, ⟨n0 + 1, fun n hn => ?_⟩, hq⟩
    obtain ⟨m, rfl⟩ : ∃ m, n = m + 1 := ⟨n - 1, by omega⟩
    cases x with
    | normal => simp only [call, hok, hh, hp, hf, hb, hheap, frame0, finish, hdf, hx m (by omega), hu, Bool.not_true, cond_false]
    | ret => simp only [call, hok, hh, hp, hf, hb, hheap, frame0, finish, hdf, hx m (by omega), hu, Bool.not_true, cond_false]
    | _ => cases he
  · exact hq.elim

/-- What was put off is done, by contract. -/
def runS (C : Cfg) (T : Tab) : List AV → Hp → (Hp → Prop) → Prop
  | [], h, next => next h
  | .fn (.func k) first cap :: l, h, next =>
    match (C.hprim k).isSome || (C.prim k).isSome || C.dfr k, T k with
    | false, some t => t (argsOf C k (first ++ cap)) h fun _ h' => runS C T l h' next
    | _, _ => False
  | _ :: _, _, _ => False
theorem runS_ok (hT : TabOk C T) : ∀ (l : List AV) (h : Hp) (next : Hp → Prop), runS C T l h next → ∃ h2, (∃ n0, ∀ n, n0 ≤ n → runD C (call C false n) l h = some h2) ∧ next h2
  | [], h, next, hr => ⟨h, ⟨0, fun _ _ => rfl⟩, hr⟩
  | v :: l, h, next, hr => by
    cases v with
    | fn f first cap =>
      cases f with
      | func k =>
        simp only [runS] at hr
        split at hr
        · rename_i t hc ht
          obtain ⟨v, h', ⟨n0, hx⟩, hn⟩ := hT k t ht _ _ _ hr
          obtain ⟨h2, ⟨m0, hy⟩, hn2⟩ := runS_ok hT l h' next hn
          refine ⟨h2, ⟨n0 + m0, fun n hn => ?_⟩, hn2⟩
          simp only [runD, hc, hx n (by omega)]
          exact hy n (by omega)
        · exact hr.elim
      | _ => simp [runS] at hr
    | _ => simp [runS] at hr
/-- The end of a function that puts off calls. -/
def RetD (C : Cfg) (T : Tab) (fn : Func) (fin : AV → Hp → Prop) (F : Fr) (h : Hp) : Prop :=
  match lk F dS with
  | (_, .dfr l) => runS C T l h fun h2 => match result C.P fn F h2 with
    | some u => fin u h2
    | none => False
  | _ => False

theorem ret_finish (hT : TabOk C T) {k : FuncId} {fn : Func} (hdf : C.dfr k = true) {fin : AV → Hp → Prop} {F : Fr} {h : Hp} (hq : RetD C T fn fin F h) : ∃ u h2, fin u h2 ∧ ∃ n0, ∀ n, n0 ≤ n → finish C (call C false n) k fn F h = some (u, h2) := by
  unfold RetD at hq
  split at hq
  · rename_i b l hl
    obtain ⟨h2, ⟨n0, hx⟩, hn⟩ := runS_ok hT _ _ _ hq
    split at hn
    · rename_i u hu
      refine ⟨u, h2, hn, n0, fun n hn => ?_⟩
      simp only [finish, hdf, hl, hx n hn, hu]
    · exact hn.elim
  · exact hq.elim

theorem call_finD (hT : TabOk C T) {k : FuncId} {fn : Func} {c : Code} (hok : C.ok k = true) (hh : C.hprim k = none) (hp : C.prim k = none) (hf : C.P.funcs[k]? = some fn) (hb : fn.body = some c) (hheap : C.heap k = false) (hdf : C.dfr k = true)
    {l : List AV} {v : AV} (hr : ToEnd C k c (RetD C T fn fun u h2 => stripR 0 h2 u = v) [.code []] .normal (argFr 0 (argsOf C k l) ++ [(dS, true, .dfr [])]) []) (draw : Bool) (h : Hp) : CallR C draw k l h v h := by
  obtain ⟨x, F', h', ⟨n0, hx⟩, he, hq⟩ := hr
  have ha : argsOf C k l = strips 0 [] l := by simp [argsOf, hh, hheap]
  rw [ha] at hx
  simp only [codeAt] at hx
  obtain ⟨u, h2, hv, m0, hm⟩ := ret_finish hT hdf hq
  refine ⟨n0 + m0 + 1, fun n hn => ?_⟩
  obtain ⟨m, rfl⟩ : ∃ m, n = m + 1 := ⟨n - 1, by omega⟩
  subst hv
  cases x with
  | normal => simp only [call, hok, hh, hp, hf, hb, hheap, frame0, hdf, hx m (by omega), hm m (by omega), Bool.not_true, cond_false]
  | ret => simp only [call, hok, hh, hp, hf, hb, hheap, frame0, hdf, hx m (by omega), hm m (by omega), Bool.not_true, cond_false]
  | _ => cases he

theorem call_prim {k : FuncId} {g : List AV → Option (Bool × AV)} (hok : C.ok k = true) (hh : C.hprim k = none) (hp : C.prim k = some g) (hheap : C.heap k = false) {l : List AV} {v : AV} (hg : g (argsOf C k l) = some (true, v)) (draw : Bool) (h : Hp) : CallR C draw k l h (strip 0 [] v) h := by
  have ha : argsOf C k l = strips 0 [] l := by simp [argsOf, hh, hheap]
  rw [ha] at hg
  refine ⟨1, fun n hn => ?_⟩
  obtain ⟨m, rfl⟩ : ∃ m, n = m + 1 := ⟨n - 1, by omega⟩
  simp only [call, hok, hh, hp, hg, Bool.not_true, cond_false]

end
end Go.Ai
