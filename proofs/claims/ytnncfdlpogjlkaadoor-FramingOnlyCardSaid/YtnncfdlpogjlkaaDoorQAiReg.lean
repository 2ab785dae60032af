/-
  Regions: the operations one behind the other, in whatever order they are listed.
-/
import Derived.Test.YtnncfdlpogjlkaaDoorQAiOps7
namespace Go.Ai
set_option linter.unusedVariables false
set_option linter.unusedSimpArgs false
set_option linter.unnecessarySimpa false
open Go.RowKit

def Callee (P : Program) (k : FuncId) : Prop := ∃ fn, P.funcs[k]? = some fn ∧ fn.body.isNone = false ∧ (fn.name == "runtime.NumGoroutine") = false

def CallPost (G : Nat → Option (List AV)) (I : World → Prop) (B0 : Nat) (E : Env) (v : AV) (h' : Hp) (e : Ending) (w' : World) : Prop :=
  ∃ c E', e = .returned c ∧ E'.w = w' ∧ Step G I B0 E E' ∧ E'.h = h' ∧ Rel E' v c

def IdentOk (C : Cfg) : Prop := ∀ k, C.ident k = true → ∀ x w, (callFunc k #[x]).run C.P w = .ok (.value x) w

def ClOk (C : Cfg) (I : World → Prop) (B0 : Nat) (cl : FuncId → List AV → Hp → Except (List Nat) (AV × Hp)) : Prop :=
  IdentOk C ∧   ∀ k vs h v h', cl k vs h = .ok (v, h') → Callee C.P k ∧ ∀ (E : Env) (args : List Value), E.h = h → Good C.G I B0 E → Rels E vs args → Calls C.P k args.toArray E.w (CallPost C.G I B0 E v h')

section
variable {C : Cfg} {I : World → Prop} {B0 : Nat}

def boolOf : Option Value → Option Bool
  | some (.bool b) => some b
  | _ => none

theorem yielded_eq {ops : Array Oper} {tmps : Array Value} {j : Nat} {d : Tmp} (hd : (ops[j]?).bind (·.dst) = some d) : yielded ops tmps j = boolOf tmps[d]? := by
  unfold yielded boolOf
  rw [hd]
  simp only [Option.bind_some]
  cases tmps[d]? with
  | none => rfl
  | some v => cases v <;> rfl

theorem boolOf_getD {tmps : Array Value} {d : Nat} {v : Value} (h : tmps.getD d undef = v) : boolOf tmps[d]? = boolOf (some v) := by
  by_cases hlt : d < tmps.size
  · simp [Array.getD, hlt] at h
    rw [Array.getElem?_eq_getElem hlt, h]
  · simp [Array.getD, hlt] at h
    rw [Array.getElem?_eq_none (Nat.le_of_not_lt hlt), ← h]
    rfl

theorem wanted_of_guard {E : Env} {F : Fr} {a : Act} (hf : FrsOk E F a) {ops : Array Oper} {o : Oper} {γ : Bool} (h : guardOf ops F o = some γ) : Region.wanted o (yielded ops a.tmps) = γ := by
  unfold guardOf at h
  unfold Region.wanted
  cases hg : o.guard with
  | none => rw [hg] at h; simpa using h
  | some jw =>
    obtain ⟨j, want⟩ := jw
    rw [hg] at h
    simp only at h ⊢
    cases hd : (ops[j]?).bind (·.dst) with
    | none => rw [hd] at h; cases h
    | some d =>
      rw [hd] at h
      simp only at h
      rw [yielded_eq hd]
      have k := hf.1 d
      split at h
      · rename_i g b hl
        simp only [Option.some.injEq] at h
        rw [hl] at k
        cases g with
        | true =>
          rw [boolOf_getD (k.1 rfl), ← h]
          cases b <;> cases want <;> rfl
        | false =>
          rw [boolOf_getD (k.2 rfl), ← h]
          rfl
      · rename_i hl
        simp only [Option.some.injEq] at h
        rw [hl] at k
        rw [boolOf_getD (k.2 rfl), ← h]
        rfl
      · cases h

def sel (ops : Array Oper) (l : List Nat) : List Oper := l.filterMap (ops[·]?)

/-- One operation. -/
theorem stepOp_ok (hI : ∀ w w', I w → Below B0 w w' → I w') {cl : FuncId → List AV → Hp → Except (List Nat) (AV × Hp)} (hcl : ClOk C I B0 cl) {ops : Array Oper} {draw : Bool} {Q : Exit → Act → World → Prop}
    {K : Act → World → Prop} {i : Nat} {o : Oper} (ho : ops[i]? = some o) {n : Nat} (hd : dstOk n o.dst = true) {F : Fr} {e : Bool × AV} {h1 : Hp} {E : Env} {a : Act}
    (hx : stepOp C cl ops draw o F E.h = .ok (e, h1)) (H : Good C.G I B0 E) (hf : FrsOk E F a) (hn : n ≤ a.tmps.size)
    (hK : ∀ E' a', Step C.G I B0 E E' → E'.h = h1 → FrsOk E' (putF F (dstW draw o) e) a' → a'.tmps.size = a.tmps.size → (draw = false ∧ isDef o = true ∨ a'.defers = a.defers) → K a' E'.w) : wpOp C.P ops Q i K a E.w := by
  simp only [wpOp, ho]
  simp only [stepOp] at hx
  have hsz : ∀ c, (a.put o.dst c).tmps.size = a.tmps.size := fun c => by cases hdd : o.dst <;> simp [Act.put]
  have hdf : ∀ c, (a.put o.dst c).defers = a.defers := fun c => by cases hdd : o.dst <;> rfl
  cases hg : guardOf ops F o with
  | none => rw [hg] at hx; cases hx
  | some γ =>
    rw [hg] at hx
    rw [wanted_of_guard hf hg]
    -- an operation that gives a value, or nothing
    have plain : isDef o = false → ∀ {g : Bool} {v : AV}, OpOk C.P C.G I B0 E a o g v h1 → e = (g, v) → o.wp C.P a E.w K Q := by
      intro hnd g v hop he
      have hdw : dstW draw o = o.dst := by cases draw <;> simp [dstW, hnd]
      rw [hdw] at hK
      subst he
      obtain ⟨c, E1, hrun, S, hE1, hv1, hv2⟩ := hop
      have hput : FrsOk E1 (putF F o.dst (g, v)) (a.put o.dst c) := FrsOk.put (FrsOk.mono S.le hf) hd hn hv1 hv2
      have hnext := hK E1 (a.put o.dst c) S hE1 hput (hsz c) (.inr (hdf c))
      unfold Oper.wp
      rcases hrun with hrun | ⟨hrun, hc⟩
      · rw [hrun]; exact hnext
      · rw [hrun]; subst hc; exact hnext
    cases γ with
    | false =>
      simp only [Except.ok.injEq, Prod.mk.injEq] at hx
      obtain ⟨rfl, rfl⟩ := hx
      rw [if_neg (by simp)]
      have hnd : isDef o = false := by
        cases hgd : o.guard with
        | none => simp [guardOf, hgd] at hg
        | some _ => simp only [isDef, hgd]; split <;> simp_all
      have hdw : dstW draw o = o.dst := by cases draw <;> simp [dstW, hnd]
      rw [hdw] at hK
      have hput : FrsOk E (putF F o.dst (false, .top)) (a.put o.dst undef) := FrsOk.put hf hd hn (fun h => by cases h) (fun _ => rfl)
      exact hK E (a.put o.dst undef) (Step.refl H) rfl hput (hsz _) (.inr (hdf _))
    | true =>
      rw [if_pos rfl]
      refine .inl ?_
      simp only at hx
      unfold stepGo at hx
      split at hx
      · -- a call of a Go function
        rename_i x args _ hop
        have hnd : isDef o = false := by simp only [isDef, hop]
        have hdw : dstW draw o = o.dst := by cases draw <;> simp [dstW, hnd]
        split at hx
        · rename_i k first cap vs hev hevs
          obtain ⟨fa, ca, hfv, hr1, hr2⟩ := ev_rel H hf hev rfl
          have hargs := evs_ok H hf args.toList (by rw [hevs])
          rw [hevs] at hargs
          have hall := Rels.append (Rels.append hr1 hargs) hr2
          have harr : fa ++ args.map a.eval ++ ca = (fa.toList ++ args.toList.map a.eval ++ ca.toList).toArray := by
            apply Array.ext'; simp
          split at hx
          · -- a function that hands on its one argument
            rename_i v hid hl
            simp only [Except.ok.injEq, Prod.mk.injEq] at hx
            obtain ⟨rfl, rfl⟩ := hx
            rw [hl] at hall
            obtain ⟨c, r, hcr, hrel, hr⟩ := hall
            simp only [Rels] at hr
            subst hr
            have hrun := hcl.1 k hid c E.w
            refine plain hnd (g := true) (v := v) ⟨c, E, .inl ?_, Step.refl H, rfl, fun _ => hrel, fun h => by cases h⟩ rfl
            obtain ⟨d, op, ty, pos, after, gd⟩ := o
            simp only at hop
            subst hop
            rw [hcr] at harr
            simp only [execOp, resolve, hfv, Deferred.ofValue, Sem.run_bind, Sem.run_pure, Result.andThen_ok, invoke, harr, hrun]
          · cases hx
          split at hx
          case h_2 => cases hx
          case h_1 v2 h2 hcall =>
            simp only [Except.ok.injEq, Prod.mk.injEq] at hx
            obtain ⟨rfl, rfl⟩ := hx
            obtain ⟨⟨fn, hfn, hb, hname⟩, hcalls⟩ := hcl.2 k _ _ _ _ hcall
            have hc := hcalls E _ rfl H hall
            have hexec : (execOp a.eval o).run C.P E.w = .ok (.enter k (fa.toList ++ args.toList.map a.eval ++ ca.toList).toArray) E.w := by
              obtain ⟨d, op, ty, pos, after, gd⟩ := o
              simp only at hop
              subst hop
              simp only [execOp, resolve, hfv, Deferred.ofValue, Sem.run_bind, Sem.run_pure, Result.andThen_ok, invoke, callFunc, run_program, hfn, hname, hb, harr]
              rfl
            unfold Oper.wp
            rw [hexec, Oper.upon_enter]
            refine hc.mono fun e w' hpost => ?_
            obtain ⟨c, E1, rfl, rfl, S, hE1, hrel⟩ := hpost
            rw [hdw] at hK
            have hput : FrsOk E1 (putF F o.dst (true, v2)) (a.put o.dst c) := FrsOk.put (FrsOk.mono S.le hf) hd hn (fun _ => hrel) (fun h => by cases h)
            exact hK E1 (a.put o.dst c) S hE1 hput (hsz c) (.inr (hdf c))
        · cases hx
      · -- a call that is put off
        rename_i x args _ hop
        split at hx
        · rename_i f first cap b l hc hev hlk
          simp only [Except.ok.injEq, Prod.mk.injEq] at hx
          obtain ⟨rfl, rfl⟩ := hx
          simp only [Bool.or_eq_false_iff, Bool.not_eq_false'] at hc
          obtain ⟨⟨⟨hdr, hdef⟩, hdst⟩, hargs⟩ := hc
          obtain ⟨fa, ca, hfv, hr1, hr2⟩ := ev_rel H hf hev rfl
          have ha : args = #[] := by
            rw [← Array.toArray_toList (xs := args), List.isEmpty_iff.1 hargs]
          have hdn : o.dst = none := by simpa using hdst
          have hexec : (execOp a.eval o).run C.P E.w = .ok (.defer { target := .fn f ca, args := fa }) E.w := by
            obtain ⟨d, op, ty, pos, after, gd⟩ := o
            simp only at hop
            subst hop
            subst ha
            simp [execOp, resolve, hfv, Deferred.ofValue]
          unfold Oper.wp
          rw [hexec]
          simp only [Oper.upon, hdn, Act.put]
          have hdw : dstW draw o = some dS := by rw [hdr]; simp [dstW, hdef]
          rw [hdw] at hK
          refine hK E _ (Step.refl H) rfl ⟨fun s => ?_, ?_⟩ rfl (.inl ⟨hdr, hdef⟩)
          · simp only [putF, lk]
            cases hb : Nat.beq dS s with
            | true => exact ⟨fun _ => trivial, fun h => by cases h⟩
            | false => exact hf.1 s
          · simp only [putF, lk, Nat.beq_refl, cond_true]
            have h2 := hf.2
            rw [hlk] at h2
            exact ⟨_, _, rfl, ⟨ca, rfl, hr1, hr2⟩, h2⟩
        · cases hx
      · -- another operation
        rename_i hnc hnd
        have hdn : isDef o = false := by
          cases hop : o.op with
          | defer c =>
            obtain ⟨callee, args, ats⟩ := c
            cases callee with
            | value x => exact absurd hop (hnd x args ats)
            | invoke r m => simp [evalOp, hop] at hx
            | builtin b => simp [evalOp, hop] at hx
          | _ => simp [isDef, hop]
        split at hx
        · rename_i e h2 hev
          simp only [Except.ok.injEq, Prod.mk.injEq] at hx
          obtain ⟨rfl, rfl⟩ := hx
          exact plain hdn (evalOp_ok C hI H hf hev rfl) rfl
        · cases hx
        · cases hx

theorem execOps_ok (hI : ∀ w w', I w → Below B0 w w' → I w') {cl : FuncId → List AV → Hp → Except (List Nat) (AV × Hp)} (hcl : ClOk C I B0 cl) {ops : Array Oper} {draw : Bool} {n : Nat} {Q : Exit → Act → World → Prop} :
    ∀ (l : List Nat) (F : Fr) (h : Hp) (F' : Fr) (h' : Hp), ((sel ops l).all fun o => dstOk n o.dst) = true → execOps C cl ops draw (sel ops l) F h = .ok (F', h') → ∀ (E : Env) (a : Act), E.h = h → Good C.G I B0 E → FrsOk E F a → n ≤ a.tmps.size →
      (∀ E' a', Step C.G I B0 E E' → E'.h = h' → FrsOk E' F' a' → a'.tmps.size = a.tmps.size → (draw = false ∧ hasDef (sel ops l) = true ∨ a'.defers = a.defers) → Q .normal a' E'.w) → wpOps C.P ops Q l a E.w := by
  intro l
  induction l with
  | nil =>
    intro F h F' h' _ hx E a hE H hf hn hQ
    simp only [sel, List.filterMap_nil, execOps, Except.ok.injEq, Prod.mk.injEq] at hx
    obtain ⟨rfl, rfl⟩ := hx
    exact hQ E a (Step.refl H) hE hf rfl (.inr rfl)
  | cons i l ih =>
    intro F h F' h' hds hx E a hE H hf hn hQ
    subst hE
    rw [wpOps_cons]
    cases ho : ops[i]? with
    | none =>
      have : sel ops (i :: l) = sel ops l := by simp [sel, ho]
      rw [this] at hx hds
      simp only [wpOp, ho]
      rw [this] at hQ
      exact ih F E.h F' h' hds hx E a rfl H hf hn hQ
    | some o =>
      have : sel ops (i :: l) = o :: sel ops l := by simp [sel, ho]
      rw [this] at hx hds hQ
      rw [List.all_cons, Bool.and_eq_true] at hds
      simp only [execOps] at hx
      cases hs : stepOp C cl ops draw o F E.h with
      | error e => rw [hs] at hx; cases hx
      | ok r =>
        obtain ⟨e, h1⟩ := r
        rw [hs] at hx
        exact stepOp_ok hI hcl ho hds.1 hs H hf hn fun E' a' S hE' hf' hsz hdf =>
          ih _ _ F' h' hds.2 hx E' a' hE' S.good hf' (by rw [hsz]; exact hn) fun E'' a'' S' hE'' hf'' hsz' hdf' => hQ E'' a'' (S.trans S') hE'' hf'' (hsz'.trans hsz) (by
            rcases hdf with ⟨h1, h2⟩ | hdf
            · exact .inl ⟨h1, by simp [hasDef, h2]⟩
            · rcases hdf' with ⟨h1, h2⟩ | hdf'
              · exact .inl ⟨h1, by simp only [hasDef] at h2 ⊢; simp [h2]⟩
              · exact .inr (hdf'.trans hdf))

end
end Go.Ai
