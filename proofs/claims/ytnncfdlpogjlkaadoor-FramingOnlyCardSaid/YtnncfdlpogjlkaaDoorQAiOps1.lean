/-
  What the operations do: those that make no memory.
-/
import Derived.Test.YtnncfdlpogjlkaaDoorQAiSteps
namespace Go.Ai
set_option linter.unusedVariables false
set_option linter.unusedSimpArgs false
set_option linter.unnecessarySimpa false
open Go.RowKit

/-- What a function has put off. -/
def DefOf (E : Env) : AV → Deferred → Prop
  | .fn f first cap, d => ∃ b, d.target = .fn f b ∧ Rels E first d.args.toList ∧ Rels E cap b.toList
  | _, _ => False
def DefsOf (E : Env) : List AV → List Deferred → Prop
  | [], ds => ds = []
  | v :: l, ds => ∃ d r, ds = d :: r ∧ DefOf E v d ∧ DefsOf E l r
def DfrOk (E : Env) : AV → List Deferred → Prop
  | .dfr l, ds => DefsOf E l ds
  | _, _ => True

theorem DefOf.mono {E E' : Env} (L : Le E E') : ∀ {v : AV} {d : Deferred}, DefOf E v d → DefOf E' v d
  | .fn _ _ _, _, h => by
    obtain ⟨b, h1, h2, h3⟩ := h
    exact ⟨b, h1, Rels.mono L _ _ h2, Rels.mono L _ _ h3⟩
theorem DefsOf.mono {E E' : Env} (L : Le E E') : ∀ {l : List AV} {ds : List Deferred}, DefsOf E l ds → DefsOf E' l ds
  | [], _, h => h
  | _ :: l, _, h => by
    obtain ⟨d, r, h1, h2, h3⟩ := h
    exact ⟨d, r, h1, h2.mono L, h3.mono L⟩
theorem DfrOk.mono {E E' : Env} (L : Le E E') {v : AV} {ds : List Deferred} (h : DfrOk E v ds) : DfrOk E' v ds := by
  cases v with
  | dfr l => exact DefsOf.mono L h
  | _ => trivial

def FrsOk (E : Env) (F : Fr) (a : Act) : Prop :=
  (∀ s, ((lk F s).1 = true → Rel E (lk F s).2 (a.tmps.getD s undef)) ∧ ((lk F s).1 = false → a.tmps.getD s undef = undef)) ∧ DfrOk E (lk F dS).2 a.defers

theorem FrsOk.mono {E E' : Env} (L : Le E E') {F : Fr} {a : Act} (h : FrsOk E F a) : FrsOk E' F a := ⟨fun s => ⟨fun hg => Rel.mono L _ _ ((h.1 s).1 hg), (h.1 s).2⟩, h.2.mono L⟩

theorem put_defers (a : Act) (d : Option Nat) (c : Value) : (a.put d c).defers = a.defers := by cases d <;> rfl

theorem FrsOk.put {E : Env} {F : Fr} {a : Act} (h : FrsOk E F a) {d : Option Nat} {n : Nat} (hd : dstOk n d = true) (hn : n ≤ a.tmps.size) {g : Bool} {v : AV} {c : Value}
    (h1 : g = true → Rel E v c) (h2 : g = false → c = undef) : FrsOk E (putF F d (g, v)) (a.put d c) := by
  cases d with
  | none => exact h
  | some d =>
    have hd' : d + 1 ≤ n ∧ d ≠ dS := by
      simp only [dstOk, Bool.and_eq_true, Bool.not_eq_true'] at hd
      exact ⟨Nat.le_of_ble_eq_true hd.1, fun e => by rw [e] at hd; simp [Nat.beq_refl] at hd⟩
    have hlt : d < a.tmps.size := by omega
    have hdb : Nat.beq d dS = false := by
      cases hb : Nat.beq d dS with
      | false => rfl
      | true => exact absurd (Nat.eq_of_beq_eq_true hb) hd'.2
    refine ⟨?_, by simp only [putF, lk, hdb, cond_false, Act.put]; exact h.2⟩
    intro s
    simp only [putF, lk, Act.put]
    by_cases hs : d = s
    · subst hs
      simp only [Nat.beq_refl, cond_true]
      have hget : (a.tmps.setIfInBounds d c).getD d undef = c := by simp [Array.getD, hlt]
      rw [hget]
      exact ⟨h1, h2⟩
    · have hb : Nat.beq d s = false := by
        cases hb : Nat.beq d s with
        | false => rfl
        | true => exact absurd (Nat.eq_of_beq_eq_true hb) hs
      have hget : (a.tmps.setIfInBounds d c).getD s undef = a.tmps.getD s undef := by
        by_cases hss : s < a.tmps.size
        · simp [Array.getD, hss, hs]
        · simp [Array.getD, hss]
      simp only [hb, cond_false]
      rw [hget]
      exact h.1 s

theorem rel_ofConst (E : Env) : ∀ v : Value, Rel E (ofConst v) v
  | .bool _ => rfl
  | .int _ _ => rfl
  | .float _ _ => trivial
  | .complex _ _ _ => trivial
  | .string s => by simp [ofConst, Rel]
  | .pointer none => rfl
  | .pointer (some _) => trivial
  | .slice none 0 0 => ⟨⟨none, 0, rfl, Nat.le_refl _, by simp [maxLen], by simp, fun h => absurd rfl h⟩, trivial⟩
  | .slice none (_ + 1) _ => trivial
  | .slice none 0 (_ + 1) => trivial
  | .slice (some _) _ _ => trivial
  | .map _ => trivial
  | .chan _ => trivial
  | .func _ _ _ => trivial
  | .nilFunc => rfl
  | .iface _ _ => trivial
  | .nilIface => rfl
  | .agg _ => trivial
  | .tuple _ => trivial

section
variable {G : Nat → Option (List AV)} {I : World → Prop} {B0 : Nat} {E : Env}

theorem ev_ok (H : Good G I B0 E) {F : Fr} {a : Act} (hf : FrsOk E F a) (x : Operand) :
    ((ev G F x).1 = true → Rel E (ev G F x).2 (a.eval x)) ∧ ((ev G F x).1 = false → a.eval x = undef) := by
  cases x with
  | tmp t => exact hf.1 t
  | const v => exact ⟨fun _ => rel_ofConst E v, fun h => by cases h⟩
  | global g =>
    refine ⟨fun _ => ?_, fun h => by cases h⟩
    simp only [ev, Act.eval]
    cases hg : G g with
    | none => trivial
    | some cs => exact ⟨_, rfl, H.glob g cs hg⟩
  | func f => exact ⟨fun _ => ⟨_, _, rfl, rfl, rfl⟩, fun h => by cases h⟩

theorem ev_rel (H : Good G I B0 E) {F : Fr} {a : Act} (hf : FrsOk E F a) {x : Operand} {g : Bool} {v : AV} (h : ev G F x = (g, v)) (hg : g = true) : Rel E v (a.eval x) := by
  have := (ev_ok H hf x).1 (by rw [h]; exact hg)
  rwa [h] at this

theorem evs_ok (H : Good G I B0 E) {F : Fr} {a : Act} (hf : FrsOk E F a) (xs : List Operand) (h : (evs G F xs).1 = true) : Rels E (evs G F xs).2 (xs.map a.eval) := by
  induction xs with
  | nil => simp [evs, Rels]
  | cons x xs ih =>
    simp only [evs, List.all_cons, Bool.and_eq_true] at h
    exact ⟨_, _, rfl, (ev_ok H hf x).1 h.1, ih h.2⟩

/-- What is owed at an operation that gives a value. -/
def OpOk (P : Program) (G : Nat → Option (List AV)) (I : World → Prop) (B0 : Nat) (E : Env) (a : Act) (o : Oper) (g : Bool) (v : AV) (h' : Hp) : Prop :=
  ∃ c E', ((execOp a.eval o).run P E.w = .ok (.value c) E'.w ∨ ((execOp a.eval o).run P E.w = .ok .skip E'.w ∧ c = undef)) ∧ Step G I B0 E E' ∧ E'.h = h' ∧ (g = true → Rel E' v c) ∧ (g = false → c = undef)

theorem OpOk.same (H : Good G I B0 E) {P : Program} {a : Act} {o : Oper} {v : AV} (c : Value) (hr : (execOp a.eval o).run P E.w = .ok (.value c) E.w) (hv : Rel E v c) : OpOk P G I B0 E a o true v E.h :=
  ⟨c, E, .inl hr, Step.refl H, rfl, fun _ => hv, fun h => by cases h⟩

variable {P : Program} {F : Fr} {a : Act} {d : Option Tmp} {ty : TypeId} {pos : String} {after : Array Edge} {gd : Option (Nat × Bool)}

theorem op_move (H : Good G I B0 E) (hf : FrsOk E F a) (x : Operand) : OpOk P G I B0 E a ⟨d, .move x, ty, pos, after, gd⟩ (ev G F x).1 (ev G F x).2 E.h :=
  ⟨a.eval x, E, .inl rfl, Step.refl H, rfl, (ev_ok H hf x).1, (ev_ok H hf x).2⟩
theorem op_assign (H : Good G I B0 E) (hf : FrsOk E F a) (x : Operand) : OpOk P G I B0 E a ⟨d, .assign x, ty, pos, after, gd⟩ (ev G F x).1 (ev G F x).2 E.h :=
  ⟨a.eval x, E, .inl rfl, Step.refl H, rfl, (ev_ok H hf x).1, (ev_ok H hf x).2⟩

theorem rel_pick (c : Bool) {x y : AV} {u v : Value} {gx gy : Bool} (hx : gx = true → Rel E x u) (hy : gy = true → Rel E y v) : cond c gx gy = true → Rel E (pickAV c x y) (if c then u else v) := by
  intro hg
  have key : Rel E (cond c x y) (if c then u else v) := by
    cases c
    · exact hy hg
    · exact hx hg
  unfold pickAV
  split
  · cases c
    · have := hy hg; simpa [cond, Rel] using this
    · have := hx hg; simpa [cond, Rel] using this
  · rename_i k p k' q
    by_cases hk : k = k'
    · subst hk
      simp only [decide_true, cond_true]
      cases c
      · have := hy hg; simpa [cond, Rel] using this
      · have := hx hg; simpa [cond, Rel] using this
    · simp only [hk, decide_false, cond_false]
      exact key
  · cases c
    · have := hy hg; simpa [cond, Rel] using this
    · have := hx hg; simpa [cond, Rel] using this
  · exact key

theorem condB_eq (c x y : Bool) : (x && y || cond c x y) = cond c x y := by cases c <;> cases x <;> cases y <;> rfl

theorem op_pick (H : Good G I B0 E) (hf : FrsOk E F a) (c x y : Operand) {c' : Bool} (hc : ev G F c = (true, .bool c')) :
    OpOk P G I B0 E a ⟨d, .pick c x y, ty, pos, after, gd⟩ (cond c' (ev G F x).1 (ev G F y).1) (pickAV c' (ev G F x).2 (ev G F y).2) E.h := by
  have h1 : a.eval c = .bool c' := ev_rel H hf hc rfl
  refine ⟨if c' then a.eval x else a.eval y, E, .inl ?_, Step.refl H, rfl, rel_pick c' (ev_ok H hf x).1 (ev_ok H hf y).1, fun hg => ?_⟩
  · simp [execOp, h1, asBool]
  · cases c'
    · exact (ev_ok H hf y).2 hg
    · exact (ev_ok H hf x).2 hg

theorem run_isAgg (P : Program) (t : TypeId) {dd : TypeDesc} (h : P.underlying t = some dd) (w : World) : (isAgg t).run P w = .ok (isAggT P t) w := by
  unfold isAgg isAggT
  rw [Sem.run_bind, run_underlying h, Result.andThen_ok, h]
  cases dd <;> rfl

/-- Cells that can be read. -/
def Rdb (E : Env) (cs : List AV) (a : Addr) : Prop := ∀ (j : Nat) x, cs[j]? = some x → ∃ v, E.w.cell? (a.add j) = some v ∧ v.oneCell' = true ∧ Rel E x v

theorem At.rdb {cs : List AV} {a : Addr} (h : At E cs a) : Rdb E cs a := fun j x hj => by
  obtain ⟨v, h1, h2, _, h4⟩ := At.iff.1 h j x hj
  exact ⟨v, h1, h2, h4⟩

theorem Rdb.vals {cs : List AV} {a : Addr} (h : Rdb E cs a) : ∃ vs : List Value, Rels1 E cs vs ∧ ∀ (j : Nat) v, vs[j]? = some v → E.w.cell? (a.add j) = some v := by
  induction cs generalizing a with
  | nil => exact ⟨[], rfl, by simp⟩
  | cons c cs ih =>
    obtain ⟨v, h1, h2, h3⟩ := h 0 c rfl
    obtain ⟨vs, k1, k2⟩ := ih (a := a.add 1) (fun j x hj => by
      have := h (j + 1) x (by simpa using hj)
      rwa [add_add', Nat.add_comm 1 j])
    refine ⟨v :: vs, ⟨v, vs, rfl, h2, h3, k1⟩, fun j u hu => ?_⟩
    cases j with
    | zero =>
      simp only [List.getElem?_cons_zero, Option.some.injEq] at hu
      subst hu
      simpa [Addr.add] using h1
    | succ j =>
      have := k2 j u (by simpa using hu)
      rwa [add_add', Nat.add_comm 1 j] at this

theorem Rels1.length {E : Env} {xs : List AV} {vs : List Value} (h : Rels1 E xs vs) : vs.length = xs.length := (Rels1.iff.1 h).1

theorem Rels1.take {E : Env} {xs : List AV} {vs : List Value} (h : Rels1 E xs vs) (n : Nat) : Rels1 E (xs.take n) (vs.take n) := by
  obtain ⟨hl, h⟩ := Rels1.iff.1 h
  refine Rels1.iff.2 ⟨by simp [hl], fun j c v hc hv => ?_⟩
  rw [List.getElem?_take] at hc hv
  split at hc
  · rename_i hj
    rw [if_pos hj] at hv
    exact h j c v hc hv
  · cases hc

theorem rd_ok {E : Env} {t : TypeId} {cs : List AV} {v : AV} {ad : Addr} (h : rd P t cs = some v) (hr : Rdb E cs ad) :
    ∃ c, (loadVar t ad).run P E.w = .ok c E.w ∧ Rel E v c := by
  unfold rd at h
  split at h
  · rename_i dd i hu hi
    have hagg := run_isAgg P t hu E.w
    unfold loadVar
    rw [Sem.run_bind, hagg, Result.andThen_ok]
    cases hb : isAggT P t with
    | true =>
      rw [hb] at h
      simp only at h
      cases hl : Nat.ble i.size cs.length with
      | false => simp [hl] at h
      | true =>
        rw [hl] at h
        simp only [cond_true, Option.some.injEq] at h
        subst h
        have hle : i.size ≤ cs.length := Nat.le_of_ble_eq_true hl
        obtain ⟨vs, k1, k2⟩ := (show Rdb E (cs.take i.size) ad from fun j x hj => by
          rw [List.getElem?_take] at hj
          split at hj
          · exact hr j x hj
          · cases hj).vals
        have hlen : vs.length = i.size := by rw [k1.length, List.length_take]; omega
        refine ⟨.agg vs.toArray, ?_, ⟨_, rfl, by simpa using k1⟩⟩
        have := run_loadCells_list (P := P) E.w ad vs k2
        rw [hlen] at this
        simp [sizeOf, typeInfo, hi, this]
    | false =>
      rw [hb] at h
      simp only at h
      cases cs with
      | nil => simp at h
      | cons c cs =>
        simp only [Option.some.injEq] at h
        subst h
        obtain ⟨v, h1, _, h3⟩ := hr 0 c rfl
        refine ⟨v, ?_, h3⟩
        have h1' : E.w.cell? ad = some v := by simpa [Addr.add] using h1
        simp [h1']
  · cases h
end
end Go.Ai
