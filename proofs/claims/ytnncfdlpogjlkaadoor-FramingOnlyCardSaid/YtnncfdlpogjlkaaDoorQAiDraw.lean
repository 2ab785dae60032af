/-
  Drawn regions: in whatever order the operations are done, they come to the same.
-/
import Derived.Test.YtnncfdlpogjlkaaDoorQAiReg
namespace Go.Ai
set_option linter.unusedVariables false
set_option linter.unusedSimpArgs false
set_option linter.unnecessarySimpa false
open Go.RowKit

def FrEq (F F' : Fr) : Prop := ∀ n, lk F n = lk F' n
theorem FrEq.refl (F : Fr) : FrEq F F := fun _ => rfl
theorem FrEq.trans {F G H : Fr} (h : FrEq F G) (k : FrEq G H) : FrEq F H := fun n => (h n).trans (k n)
theorem FrEq.put {F F' : Fr} (h : FrEq F F') (d : Option Nat) (e : Bool × AV) : FrEq (putF F d e) (putF F' d e) := by
  cases d with
  | none => exact h
  | some d =>
    intro n
    simp only [putF, lk]
    rw [h n]

theorem lk_put_ne {F : Fr} {d : Option Nat} {e : Bool × AV} {n : Nat} (h : d ≠ some n) : lk (putF F d e) n = lk F n := by
  cases d with
  | none => rfl
  | some d =>
    have hne : d ≠ n := fun he => h (by rw [he])
    have hb : Nat.beq d n = false := by
      cases hb : Nat.beq d n with
      | false => rfl
      | true => exact absurd (Nat.eq_of_beq_eq_true hb) hne
    simp [putF, lk, hb]

theorem put_comm {F : Fr} {d d' : Option Nat} {e e' : Bool × AV} (h : ∀ x, d = some x → d' ≠ some x) : FrEq (putF (putF F d e) d' e') (putF (putF F d' e') d e) := by
  intro n
  cases d with
  | none => rfl
  | some d =>
    cases d' with
    | none => rfl
    | some d' =>
      have hne : d ≠ d' := fun he => h d rfl (by rw [he])
      simp only [putF, lk]
      cases h1 : Nat.beq d' n <;> cases h2 : Nat.beq d n <;> simp
      exact absurd ((Nat.eq_of_beq_eq_true h2).trans (Nat.eq_of_beq_eq_true h1).symm) hne

theorem ev_congr {G : Nat → Option (List AV)} {F F' : Fr} {x : Operand} (h : ∀ t, x = .tmp t → lk F t = lk F' t) : ev G F x = ev G F' x := by
  cases x with
  | tmp t => exact h t rfl
  | _ => rfl

theorem evs_congr {G : Nat → Option (List AV)} {F F' : Fr} {l : List Operand} (h : ∀ x ∈ l, ev G F x = ev G F' x) : evs G F l = evs G F' l := by
  simp only [evs]
  congr 1
  · induction l with
    | nil => rfl
    | cons x l ih =>
      rw [List.all_cons, List.all_cons, h x (by simp), ih fun y hy => h y (by simp [hy])]
  · exact List.map_congr_left fun x hx => by rw [h x hx]

section
variable {C : Cfg} {F F' : Fr} {h : Hp} {dr : Bool}

theorem parts_congr (parts : Array (Nat × Operand)) (hx : ∀ x ∈ (parts.toList.map (·.2)).toArray, ev C.G F x = ev C.G F' x) : ∀ p ∈ parts.toList, ev C.G F p.2 = ev C.G F' p.2 := fun p hp =>
  hx p.2 (by simp only [List.mem_toArray, List.mem_map]; exact ⟨p, hp, rfl⟩)

theorem all_congr' {α : Type} {l : List α} {f g : α → Bool} (h : ∀ x ∈ l, f x = g x) : l.all f = l.all g := by
  induction l with
  | nil => rfl
  | cons x l ih => rw [List.all_cons, List.all_cons, h x (by simp), ih fun y hy => h y (by simp [hy])]

theorem evBuild_congr (t : TypeId) (parts : Array (Nat × Operand)) (hp : ∀ p ∈ parts.toList, ev C.G F p.2 = ev C.G F' p.2) : evBuild C dr F h t parts = evBuild C dr F' h t parts := by
  unfold evBuild
  have e1 : (parts.toList.map fun p => (p.1, (ev C.G F p.2).2)) = parts.toList.map fun p => (p.1, (ev C.G F' p.2).2) := List.map_congr_left fun p hm => by rw [hp p hm]
  have e2 : (parts.toList.all fun p => (ev C.G F p.2).1 && flatOk (ev C.G F p.2).2) = parts.toList.all fun p => (ev C.G F' p.2).1 && flatOk (ev C.G F' p.2).2 := all_congr' fun p hm => by rw [hp p hm]
  rw [e1, e2]

theorem evBuildSlice_congr (t : TypeId) (len : Nat) (parts : Array (Nat × Operand)) (hp : ∀ p ∈ parts.toList, ev C.G F p.2 = ev C.G F' p.2) : evBuildSlice C dr F h t len parts = evBuildSlice C dr F' h t len parts := by
  unfold evBuildSlice
  have e1 : (parts.toList.map fun p => flat (ev C.G F p.2).2) = parts.toList.map fun p => flat (ev C.G F' p.2).2 := List.map_congr_left fun p hm => by rw [hp p hm]
  have e2 : (parts.toList.all fun p => (ev C.G F p.2).1 && flatOk (ev C.G F p.2).2) = parts.toList.all fun p => (ev C.G F' p.2).1 && flatOk (ev C.G F' p.2).2 := all_congr' fun p hm => by rw [hp p hm]
  have e3 : ∀ n : Nat, (parts.toList.all fun p => Nat.beq (flat (ev C.G F p.2).2).length n) = parts.toList.all fun p => Nat.beq (flat (ev C.G F' p.2).2).length n := fun n => all_congr' fun p hm => by rw [hp p hm]
  simp only [e1, e2, e3]

theorem evalOp_congr (o : Oper) (hx : ∀ x ∈ o.op.operands, ev C.G F x = ev C.G F' x) : evalOp C dr F h o = evalOp C dr F' h o := by
  obtain ⟨d, op, ty, pos, after, gd⟩ := o
  have mem : ∀ {x : Operand} {l : List Operand}, x ∈ l → x ∈ l.toArray := fun hm => by simpa using hm
  cases op
  case move x =>
    have e := hx x (by simp [Op.operands])
    cases x <;> simp only [evalOp, evMove, e]
  case assign x =>
    have e := hx x (by simp [Op.operands])
    cases x <;> simp only [evalOp, evMove, e]
  case pick c a b =>
    simp only [evalOp, evPick, hx c (by simp [Op.operands]), hx a (by simp [Op.operands]), hx b (by simp [Op.operands])]
  case box t x => simp only [evalOp, hx x (by simp [Op.operands])]
  case range t x => simp only [evalOp, evRange, hx x (by simp [Op.operands])]
  case next it b => simp only [evalOp, evNext, hx it (by simp [Op.operands])]
  case makeSlice t l c => simp only [evalOp, evMake, hx l (by simp [Op.operands]), hx c (by simp [Op.operands])]
  case build t parts => exact evBuild_congr t parts (parts_congr parts hx)
  case buildSlice t len parts => exact evBuildSlice_congr t len parts (parts_congr parts hx)
  case load t x => simp only [evalOp, evLoad, hx x (by simp [Op.operands])]
  case store t x y => simp only [evalOp, evStore, hx x (by simp [Op.operands]), hx y (by simp [Op.operands])]
  case nilCheck x => simp only [evalOp, evNilCheck, hx x (by simp [Op.operands])]
  case binOp op t x y z => simp only [evalOp, evBin, evEqS, hx x (by simp [Op.operands]), hx y (by simp [Op.operands])]
  case unOp op t x => simp only [evalOp, hx x (by simp [Op.operands])]
  case convert s t x => simp only [evalOp, evConvert, hx x (by simp [Op.operands])]
  case makeFunc f first cap =>
    have e1 : evs C.G F first.toList = evs C.G F' first.toList := evs_congr fun x hm => hx x (by simp [Op.operands]; exact .inl (by simpa using hm))
    have e2 : evs C.G F cap.toList = evs C.G F' cap.toList := evs_congr fun x hm => hx x (by simp [Op.operands]; exact .inr (by simpa using hm))
    simp only [evalOp, e1, e2]
  case slice t x lo hi mx =>
    have e := hx x (by simp [Op.operands])
    have el : lo.map (ev C.G F) = lo.map (ev C.G F') := by
      cases lo with
      | none => rfl
      | some l => exact congrArg some (hx l (by simp [Op.operands]))
    have eh : hi.map (ev C.G F) = hi.map (ev C.G F') := by
      cases hi with
      | none => rfl
      | some l => exact congrArg some (hx l (by simp [Op.operands]))
    simp only [evalOp, evSlice, evSliceP, e, el, eh]
  case fieldAddr s x f => simp only [evalOp, evFieldAddr, hx x (by simp [Op.operands])]
  case field s x f => simp only [evalOp, evField, hx x (by simp [Op.operands])]
  case indexAddr t x i => simp only [evalOp, evIndexAddr, hx x (by simp [Op.operands]), hx i (by simp [Op.operands])]
  case index t x i => simp only [evalOp, evIndex, hx x (by simp [Op.operands]), hx i (by simp [Op.operands])]
  case extract t ix => simp only [evalOp, evExtract, hx t (by simp [Op.operands])]
  case call c =>
    obtain ⟨callee, args, ats⟩ := c
    cases callee with
    | builtin b =>
      have ha : ∀ x ∈ args.toList, ev C.G F x = ev C.G F' x := fun x hm => hx x (by simp [Op.operands, Call.operands]; simpa using hm)
      simp only [evalOp]
      generalize args.toList = l at ha ⊢
      generalize ats.toList = ts
      unfold evBuiltin
      split
      · rename_i x t
        simp only [evLen, ha x (by simp)]
      · rename_i x y
        simp only [evMax, ha x (by simp), ha y (by simp)]
      · rename_i x y
        simp only [evMin, ha x (by simp), ha y (by simp)]
      · rename_i s x t t'
        simp only [evAppend, evAppendS, ha s (by simp), ha x (by simp)]
      · rfl
    | _ => rfl
  all_goals rfl

theorem stepGo_congr {cl : FuncId → List AV → Hp → Except (List Nat) (AV × Hp)} {draw : Bool} (o : Oper) (hx : ∀ x ∈ o.op.operands, ev C.G F x = ev C.G F' x) (hd : draw = true ∨ lk F dS = lk F' dS) : stepGo C cl draw o F h = stepGo C cl draw o F' h := by
  have e := fun dr => evalOp_congr (C := C) (F := F) (F' := F') (h := h) (dr := dr) o hx
  unfold stepGo
  split
  · rename_i x args ats hop
    rw [hop] at hx
    have e1 : ev C.G F x = ev C.G F' x := hx x (by simp [Op.operands, Call.operands])
    have e2 : evs C.G F args.toList = evs C.G F' args.toList := evs_congr fun y hm => hx y (by simp [Op.operands, Call.operands]; exact .inr (by simpa using hm))
    rw [e1, e2]
  · rename_i x args ats hop
    rw [hop] at hx
    have e1 : ev C.G F x = ev C.G F' x := hx x (by simp [Op.operands, Call.operands])
    rcases hd with rfl | hd
    · simp
    · rw [e1, hd]
  · rw [e]

theorem stepOp_congr {cl : FuncId → List AV → Hp → Except (List Nat) (AV × Hp)} {ops : Array Oper} {draw : Bool} (o : Oper) (hx : ∀ t ∈ o.looksAt ops, lk F t = lk F' t) (hdd : draw = true ∨ lk F dS = lk F' dS) : stepOp C cl ops draw o F h = stepOp C cl ops draw o F' h := by
  have hg : guardOf ops F o = guardOf ops F' o := by
    unfold guardOf
    cases hgd : o.guard with
    | none => rfl
    | some jw =>
      obtain ⟨j, want⟩ := jw
      simp only
      cases hd : (ops[j]?).bind (·.dst) with
      | none => rfl
      | some d =>
        simp only
        rw [hx d (by simp [Oper.looksAt, hgd, hd])]
  have hs : stepGo C cl draw o F h = stepGo C cl draw o F' h := stepGo_congr o (fun x hm => ev_congr fun t ht => hx t (by
    subst ht
    exact List.mem_append_left _ (List.mem_filterMap.2 ⟨.tmp t, by simpa using hm, rfl⟩))) hdd
  unfold stepOp
  rw [hg, hs]

/-- Calls that neither look at the heap nor turn it. -/
def Blind (cl : FuncId → List AV → Hp → Except (List Nat) (AV × Hp)) : Prop :=
  ∀ k vs h v h', cl k vs h = .ok (v, h') → h' = h ∧ ∀ g, cl k vs g = .ok (v, g)

theorem zeroOf_dr {P : Program} {t : TypeId} {n : Nat} {cs : List AV} {more : Hp} (hz : zeroOf P true t n = some (cs, more)) : more = [] ∧ ∀ m, zeroOf P true t m = some (cs, []) := by
  unfold zeroOf at hz ⊢
  cases hi : P.info? t with
  | none => rw [hi] at hz; cases hz
  | some i =>
    rw [hi] at hz
    simp only at hz ⊢
    cases hzz : i.zero with
    | none => rw [hzz] at hz; cases hz
    | some z =>
      rw [hzz] at hz
      simp only at hz ⊢
      cases hb : (!(z.cells.toList.all (·.oneCell'))) with
      | true => rw [hb] at hz; cases hz
      | false =>
        rw [hb] at hz
        simp only [cond_false, Option.some.injEq, Prod.mk.injEq] at hz ⊢
        exact ⟨hz.2.symm, fun _ => ⟨hz.1, trivial⟩⟩

/-- Without memory, the heap is neither looked at nor turned. -/
theorem evSliceP_dr (t : TypeId) (x : Operand) (lo hi mx : Option Operand) : evSliceP C true F h t x lo hi mx = none := by simp [evSliceP]
theorem evalOp_slice_dr (o : Oper) {t : TypeId} {x : Operand} {lo hi mx : Option Operand} (ho : o.op = .slice t x lo hi mx) : evalOp C true F h o = evSlice C F h t x lo hi mx := by
  unfold evalOp
  rw [ho]
  simp only [evSliceP_dr]
  cases evSlice C F h t x lo hi mx <;> rfl
theorem evalOp_blind (o : Oper) (ht : touches C.P o.op = false) {r : Bool × (Bool × AV)} {h' : Hp} (hx : evalOp C true F h o = some (r.1, r.2, h')) : h' = h ∧ ∀ g, evalOp C true F g o = some (r.1, r.2, g) := by
  obtain ⟨d, op, ty, pos, after, gd⟩ := o
  obtain ⟨r1, r2⟩ := r
  have mv : ∀ x : Operand, evMove C true F h ty x = some (r1, r2, h') → h' = h ∧ ∀ g, evMove C true F g ty x = some (r1, r2, g) := by
    intro x hx
    cases x with
    | const v =>
      simp only [evMove] at hx ⊢
      cases hn : nilSl v <;> rw [hn] at hx <;> simp only [Option.some.injEq, Prod.mk.injEq] at hx ⊢ <;> exact ⟨hx.2.2.symm, fun _ => ⟨hx.1, hx.2.1, trivial⟩⟩
    | _ =>
      simp only [evMove, Option.some.injEq, Prod.mk.injEq] at hx ⊢
      exact ⟨hx.2.2.symm, fun _ => ⟨hx.1, hx.2.1, trivial⟩⟩
  cases op <;> simp only [touches, effect, Bool.true_eq_false] at ht
  case move x => exact mv x hx
  case assign x => exact mv x hx
  case pick c a b =>
    simp only [evalOp, evPick] at hx ⊢
    split at hx <;> simp_all
  case build t parts =>
    simp only [evalOp, evBuild] at hx ⊢
    split at hx
    · rename_i fs z more hu hz
      obtain ⟨rfl, hz'⟩ := zeroOf_dr hz
      split at hx
      · rename_i cs hf
        simp only [Option.some.injEq, Prod.mk.injEq] at hx
        obtain ⟨rfl, rfl, rfl⟩ := hx
        refine ⟨by simp, fun g => ?_⟩
        simp only [hu, hz' g.length, hf, List.append_nil]
      · cases hx
    · rename_i m e z more hu hz
      obtain ⟨rfl, hz'⟩ := zeroOf_dr hz
      split at hx
      · rename_i cs hf
        simp only [Option.some.injEq, Prod.mk.injEq] at hx
        obtain ⟨rfl, rfl, rfl⟩ := hx
        refine ⟨by simp, fun g => ?_⟩
        simp only [hu, hz' g.length, hf, List.append_nil]
      · cases hx
    · cases hx
  case buildSlice t len parts =>
    simp only [evalOp, evBuildSlice] at hx ⊢
    split at hx
    · generalize hb : (_ && _ : Bool) = b at hx ⊢
      cases b with
      | false => simp at hx
      | true => simp_all
    · cases hx
  case nilCheck x =>
    simp only [evalOp, evNilCheck] at hx ⊢
    split at hx <;> simp_all
  case binOp op t x y z =>
    simp only [evalOp, evBin] at hx ⊢
    split at hx
    · simp_all
    · split at hx
      · simp_all
      · simp_all
      · unfold evEqS at hx ⊢
        split at hx
        · split at hx <;> simp_all
        · split at hx <;> simp_all
        · cases hx
  case unOp op t x =>
    simp only [evalOp] at hx ⊢
    split at hx <;> simp_all
  case convert s t x =>
    simp only [evalOp, evConvert] at hx ⊢
    unfold convTouch at ht
    split at hx
    · simp_all
    · simp_all
    · simp_all
    · simp_all
    · simp_all
    · rename_i e g1 l hs hd hx2
      rw [hs, hd] at ht
      simp at ht
    · split at hx <;> simp_all
  case makeFunc f first cap =>
    simp only [evalOp, Option.some.injEq, Prod.mk.injEq] at hx ⊢
    exact ⟨hx.2.2.symm, fun _ => ⟨hx.1, hx.2.1, trivial⟩⟩
  case slice t x lo hi mx =>
    have e0 : ∀ g, evalOp C true F g ⟨d, .slice t x lo hi mx, ty, pos, after, gd⟩ = evSlice C F g t x lo hi mx := fun g => evalOp_slice_dr (h := g) ⟨d, .slice t x lo hi mx, ty, pos, after, gd⟩ rfl
    rw [e0] at hx
    simp only [e0]
    simp only [evSlice] at hx ⊢
    split at hx <;> simp_all
  case fieldAddr s x f =>
    simp only [evalOp, evFieldAddr] at hx ⊢
    split at hx
    · split at hx
      · generalize hb : Nat.beq _ _ = b at hx ⊢
        cases b with
        | true => simp at hx
        | false => split at hx <;> simp_all
      · cases hx
    · cases hx
  case field s x f =>
    simp only [evalOp, evField] at hx ⊢
    split at hx
    · split at hx
      · split at hx <;> simp_all
      · cases hx
    · cases hx
  case indexAddr t x i =>
    simp only [evalOp, evIndexAddr] at hx ⊢
    split at hx <;> simp_all
  case index t x i =>
    simp only [evalOp, evIndex] at hx ⊢
    split at hx <;> simp_all
  case extract t ix =>
    simp only [evalOp, evExtract] at hx ⊢
    split at hx
    · split at hx <;> simp_all
    · cases hx
  case call c =>
    obtain ⟨callee, args, ats⟩ := c
    cases callee with
    | builtin b =>
      simp only [evalOp] at hx ⊢
      generalize args.toList = l at hx ⊢
      generalize ats.toList = ts at hx ⊢
      unfold evBuiltin at hx ⊢
      split at hx
      · simp only [evLen] at hx ⊢
        split at hx <;> simp_all
      · simp only [evMax] at hx ⊢
        split at hx <;> simp_all
      · simp only [evMin] at hx ⊢
        split at hx <;> simp_all
      · simp at ht
      · cases hx
    | _ => simp [evalOp] at hx
  all_goals (simp [evalOp] at hx)

theorem evalOp_quiet (o : Oper) (ht : effect C.P o.op = false) {r : Bool × (Bool × AV)} {h' : Hp} (hx : evalOp C true F h o = some (r.1, r.2, h')) : h' = h := by
  cases htt : touches C.P o.op with
  | false => exact (evalOp_blind o htt hx).1
  | true =>
    obtain ⟨d, op, ty, pos, after, gd⟩ := o
    obtain ⟨r1, r2⟩ := r
    cases op <;> simp only [touches, ht, Bool.false_eq_true] at htt
    case load t x =>
      simp only [evalOp, evLoad] at hx
      split at hx
      · split at hx <;> simp_all
      · split at hx
        · split at hx <;> simp_all
        · cases hx
      · cases hx
    case convert s t x =>
      simp only [evalOp, evConvert] at hx
      split at hx
      · split at hx <;> simp_all
      · split at hx <;> simp_all
      · simp_all
      · split at hx <;> simp_all
      · split at hx <;> simp_all
      · rename_i e g1 l hs hd hx2
        simp [effect, strBytes, hs, hd] at ht
      · split at hx <;> simp_all

variable {cl : FuncId → List AV → Hp → Except (List Nat) (AV × Hp)} {ops : Array Oper}

theorem stepOp_blind (hcl : Blind cl) (o : Oper) (ht : touches C.P o.op = false) {e : Bool × AV} {h' : Hp} (hx : stepOp C cl ops true o F h = .ok (e, h')) : h' = h ∧ ∀ g, stepOp C cl ops true o F g = .ok (e, g) := by
  unfold stepOp at hx ⊢
  split at hx
  · cases hx
  · simp only [Except.ok.injEq, Prod.mk.injEq] at hx
    obtain ⟨rfl, rfl⟩ := hx
    exact ⟨rfl, fun _ => rfl⟩
  · unfold stepGo at hx ⊢
    split at hx
    · split at hx
      · split at hx
        · simp_all
        · cases hx
        · split at hx
          · rename_i hc
            simp only [Except.ok.injEq, Prod.mk.injEq] at hx
            obtain ⟨rfl, rfl⟩ := hx
            obtain ⟨rfl, hg⟩ := hcl _ _ _ _ _ hc
            refine ⟨rfl, fun g => ?_⟩
            simp_all
          · cases hx
      · cases hx
    · simp at hx
    · simp only [Bool.true_or] at hx ⊢
      split at hx
      · rename_i e' h2 hev
        simp only [Except.ok.injEq, Prod.mk.injEq] at hx
        obtain ⟨rfl, rfl⟩ := hx
        obtain ⟨rfl, hg⟩ := evalOp_blind (r := (true, e')) o ht hev
        exact ⟨rfl, fun g => by simp [hg g]⟩
      · cases hx
      · cases hx

theorem stepOp_quiet (hcl : Blind cl) (o : Oper) (ht : effect C.P o.op = false) {e : Bool × AV} {h' : Hp} (hx : stepOp C cl ops true o F h = .ok (e, h')) : h' = h := by
  cases htt : touches C.P o.op with
  | false => exact (stepOp_blind hcl o htt hx).1
  | true =>
    unfold stepOp at hx
    split at hx
    · cases hx
    · simp only [Except.ok.injEq, Prod.mk.injEq] at hx
      exact hx.2.symm
    · unfold stepGo at hx
      split at hx
      · rename_i hop
        rw [hop] at htt
        simp [touches, effect] at htt
      · simp at hx
      · simp only [Bool.true_or] at hx
        split at hx
        · rename_i e' h2 hev
          simp only [Except.ok.injEq, Prod.mk.injEq] at hx
          obtain ⟨rfl, rfl⟩ := hx
          exact evalOp_quiet (r := (true, e')) o ht hev
        · cases hx
        · cases hx

theorem lsP_spec {os : List Oper} {x y : Oper} (h : lsP os x y = true) : ∃ t p t' q v, x.op = .load t (.tmp p) ∧ y.op = .store t' (.tmp q) v ∧ x.guard = none ∧ y.guard = none ∧ stabT os p = true ∧ stabT os q = true := by
  unfold lsP at h
  split at h
  · rename_i t p t' q v h1 h2 h3 h4
    simp only [Bool.and_eq_true] at h
    exact ⟨t, p, t', q, v, h1, h2, h3, h4, h.1.2, h.2⟩
  · cases h

def LsF (os : List Oper) (F : Fr) : Prop := ∀ x ∈ os, ∀ y ∈ os, lsP os x y = true → lsD F x y = true
theorem lsF_of {os : List Oper} {F : Fr} (h : lsOk os F = true) : LsF os F := by
  intro x hx y hy hp
  have h1 := List.all_eq_true.1 (List.all_eq_true.1 h x hx) y hy
  rw [hp] at h1
  simpa using h1
theorem stabT_ne {os : List Oper} {t : Nat} (h : stabT os t = true) {z : Oper} (hz : z ∈ os) : z.dst ≠ some t := by
  intro e
  have h1 := List.all_eq_true.1 h z hz
  rw [e] at h1
  simp [Nat.beq_refl] at h1
theorem LsF.put {os : List Oper} {F : Fr} (h : LsF os F) {z : Oper} (hz : z ∈ os) (e : Bool × AV) : LsF os (putF F z.dst e) := by
  intro x hx y hy hp
  have h1 := h x hx y hy hp
  obtain ⟨t, p, t', q, v, k1, k2, _, _, k5, k6⟩ := lsP_spec hp
  unfold lsD at h1 ⊢
  rw [k1, k2] at h1 ⊢
  simp only at h1 ⊢
  rw [lk_put_ne (stabT_ne k5 hz), lk_put_ne (stabT_ne k6 hz)]
  exact h1
theorem lsD_spec {F : Fr} {x y : Oper} {t p t' q : Nat} {v : Operand} (hx : x.op = .load t (.tmp p)) (hy : y.op = .store t' (.tmp q) v) (h : lsD F x y = true) : ∃ b o b' o', lk F p = (true, .ptr b o) ∧ lk F q = (true, .ptr b' o') ∧ b ≠ b' := by
  unfold lsD at h
  rw [hx, hy] at h
  simp only at h
  split at h
  · rename_i b o b' o' h1 h2
    exact ⟨b, o, b', o', h1, h2, fun e => by subst e; simp [Nat.beq_refl] at h⟩
  · cases h
theorem load_step {x : Oper} {t p b o : Nat} (hop : x.op = .load t (.tmp p)) (hg : x.guard = none) (hl : lk F p = (true, .ptr b o)) {e : Bool × AV} {h' : Hp} (hx : stepOp C cl ops true x F h = .ok (e, h')) :
    h' = h ∧ ∀ g : Hp, g[b]? = h[b]? → stepOp C cl ops true x F g = .ok (e, g) := by
  obtain ⟨d, op, ty, pos, after, gd⟩ := x
  simp only at hop hg
  subst hop; subst hg
  simp only [stepOp, guardOf, stepGo, evalOp, evLoad, ev, hl] at hx ⊢
  cases hb : h[b]? with
  | none => rw [hb] at hx; cases hx
  | some y =>
    rw [hb] at hx
    cases y with
    | mem t0 cs =>
      simp only at hx
      cases hr : rd C.P t (cs.drop o) with
      | none => rw [hr] at hx; cases hx
      | some v =>
        rw [hr] at hx
        simp only [Except.ok.injEq, Prod.mk.injEq] at hx
        obtain ⟨rfl, rfl⟩ := hx
        refine ⟨rfl, fun g hgb => ?_⟩
        simp only [hgb, hr]
    | _ => cases hx
theorem store_step {y : Oper} {t q b o : Nat} {v : Operand} (hop : y.op = .store t (.tmp q) v) (hg : y.guard = none) (hl : lk F q = (true, .ptr b o)) {e : Bool × AV} {h' : Hp} (hx : stepOp C cl ops true y F h = .ok (e, h')) :
    ∀ c, c ≠ b → h'[c]? = h[c]? := by
  obtain ⟨d, op, ty, pos, after, gd⟩ := y
  simp only at hop hg
  subst hop; subst hg
  simp only [stepOp, guardOf, stepGo, evalOp, evStore] at hx
  have he : ev C.G F (.tmp q) = (true, .ptr b o) := hl
  rw [he] at hx
  simp only at hx
  intro c hc
  split at hx
  · rename_i e1 h1 hm
    simp only [Except.ok.injEq, Prod.mk.injEq] at hx
    obtain ⟨rfl, rfl⟩ := hx
    split at hm
    · simp only [Option.some.injEq, Prod.mk.injEq] at hm
      obtain ⟨_, _, rfl⟩ := hm
      rw [List.getElem?_set_ne (fun e => hc e.symm)]
    · cases hm
  · cases hx
  · cases hx

/-- A read and a write in unlike blocks may change places. -/
theorem swapLS {os : List Oper} (hF : LsF os F) {x y : Oper} (hxm : x ∈ os) (hym : y ∈ os) (hap : x.apart ops y = true) (hls : (lsP os x y || lsP os y x) = true) {e1 e2 : Bool × AV} {h1 h2 : Hp}
    (hx : stepOp C cl ops true x F h = .ok (e1, h1)) (hy : stepOp C cl ops true y (putF F x.dst e1) h1 = .ok (e2, h2)) :
    ∃ h3, stepOp C cl ops true y F h = .ok (e2, h3) ∧ stepOp C cl ops true x (putF F y.dst e2) h3 = .ok (e1, h2) ∧ FrEq (putF (putF F x.dst e1) y.dst e2) (putF (putF F y.dst e2) x.dst e1) := by
  obtain ⟨a1, a2, a3⟩ := Oper.apart_spec hap
  have cy : ∀ g, stepOp C cl ops true y (putF F x.dst e1) g = stepOp C cl ops true y F g := fun g => stepOp_congr y (fun t ht => lk_put_ne fun hd => a1 t hd ht) (.inl rfl)
  have cx : ∀ g, stepOp C cl ops true x (putF F y.dst e2) g = stepOp C cl ops true x F g := fun g => stepOp_congr x (fun t ht => lk_put_ne fun hd => a3 t hd ht) (.inl rfl)
  have hp : FrEq (putF (putF F x.dst e1) y.dst e2) (putF (putF F y.dst e2) x.dst e1) := put_comm a2
  rw [cy] at hy
  rw [Bool.or_eq_true] at hls
  rcases hls with hl | hl
  · have hd := hF x hxm y hym hl
    obtain ⟨t, p, t', q, v, k1, k2, k3, k4, _, _⟩ := lsP_spec hl
    obtain ⟨b, o, b', o', q1, q2, hne⟩ := lsD_spec k1 k2 hd
    obtain ⟨rfl, hall⟩ := load_step k1 k3 q1 hx
    have hs := store_step k2 k4 q2 hy
    exact ⟨h2, hy, (cx h2).trans (hall h2 (hs b hne)), hp⟩
  · have hd := hF y hym x hxm hl
    obtain ⟨t, p, t', q, v, k1, k2, k3, k4, _, _⟩ := lsP_spec hl
    obtain ⟨b, o, b', o', q1, q2, hne⟩ := lsD_spec k1 k2 hd
    have hs := store_step k2 k4 q2 hx
    obtain ⟨rfl, hall⟩ := load_step k1 k3 q1 hy
    exact ⟨h, hall h (hs b hne).symm, (cx h).trans hx, hp⟩

/-- Two operations that are apart and calm may change places. -/
theorem swap (hcl : Blind cl) {x y : Oper} (hap : x.apart ops y = true) (hcm : calm C.P x.op y.op = true) {e1 e2 : Bool × AV} {h1 h2 : Hp}
    (hx : stepOp C cl ops true x F h = .ok (e1, h1)) (hy : stepOp C cl ops true y (putF F x.dst e1) h1 = .ok (e2, h2)) :
    ∃ h3, stepOp C cl ops true y F h = .ok (e2, h3) ∧ stepOp C cl ops true x (putF F y.dst e2) h3 = .ok (e1, h2) ∧ FrEq (putF (putF F x.dst e1) y.dst e2) (putF (putF F y.dst e2) x.dst e1) := by
  obtain ⟨a1, a2, a3⟩ := Oper.apart_spec hap
  have cy : ∀ g, stepOp C cl ops true y (putF F x.dst e1) g = stepOp C cl ops true y F g := fun g => stepOp_congr y (fun t ht => lk_put_ne fun hd => a1 t hd ht) (.inl rfl)
  have cx : ∀ g, stepOp C cl ops true x (putF F y.dst e2) g = stepOp C cl ops true x F g := fun g => stepOp_congr x (fun t ht => lk_put_ne fun hd => a3 t hd ht) (.inl rfl)
  have hp : FrEq (putF (putF F x.dst e1) y.dst e2) (putF (putF F y.dst e2) x.dst e1) := put_comm a2
  rw [cy] at hy
  cases hxt : touches C.P x.op with
  | false =>
    obtain ⟨rfl, hg⟩ := stepOp_blind hcl x hxt hx
    exact ⟨h2, hy, (cx h2).trans (hg h2), hp⟩
  | true =>
    cases hyt : touches C.P y.op with
    | false =>
      obtain ⟨rfl, hg⟩ := stepOp_blind hcl y hyt hy
      exact ⟨h, hg h, (cx h).trans hx, hp⟩
    | true =>
      have hey : effect C.P y.op = false := by cases he : effect C.P y.op <;> simp_all [calm]
      have hex : effect C.P x.op = false := by cases he : effect C.P x.op <;> simp_all [calm]
      have e1' := stepOp_quiet hcl x hex hx
      subst e1'
      have e2' := stepOp_quiet hcl y hey hy
      subst e2'
      exact ⟨h2, hy, (cx h2).trans hx, hp⟩

theorem execOps_congr {draw : Bool} : ∀ (l : List Oper) {F F' : Fr} {h h' : Hp} {G : Fr}, FrEq F F' → execOps C cl ops draw l F h = .ok (G, h') → ∃ G', execOps C cl ops draw l F' h = .ok (G', h') ∧ FrEq G G'
  | [], F, F', h, h', G, he, hx => by
    simp only [execOps, Except.ok.injEq, Prod.mk.injEq] at hx ⊢
    obtain ⟨rfl, rfl⟩ := hx
    exact ⟨F', ⟨rfl, rfl⟩, he⟩
  | o :: l, F, F', h, h', G, he, hx => by
    simp only [execOps] at hx ⊢
    rw [← stepOp_congr (F := F) (F' := F') o (fun t _ => he t) (.inr (he dS))]
    split at hx
    · exact execOps_congr l (he.put _ _) hx
    · cases hx

/-- An operation that is apart and calm with all that stand before it may be done first. -/
theorem pull (hcl : Blind cl) {os : List Oper} {o : Oper} (hom : o ∈ os) {post : List Oper} : ∀ (pre : List Oper) {F : Fr} {h h' : Hp} {G : Fr}, LsF os F → (∀ x ∈ pre, x ∈ os ∧ x.apart ops o = true ∧ (calm C.P x.op o.op || lsP os x o || lsP os o x) = true) →
    execOps C cl ops true (pre ++ o :: post) F h = .ok (G, h') → ∃ G', execOps C cl ops true (o :: (pre ++ post)) F h = .ok (G', h') ∧ FrEq G G'
  | [], F, h, h', G, _, _, hx => ⟨G, hx, FrEq.refl G⟩
  | x :: pre, F, h, h', G, hF, hap, hx => by
    rw [List.cons_append] at hx
    simp only [execOps, dstW] at hx
    cases hs : stepOp C cl ops true x F h with
    | error e => rw [hs] at hx; cases hx
    | ok r =>
      obtain ⟨e1, h1⟩ := r
      rw [hs] at hx
      simp only at hx
      obtain ⟨G1, hx1, he1⟩ := pull hcl hom pre (hF.put (hap x (by simp)).1 e1) (fun y hy => hap y (by simp [hy])) hx
      simp only [execOps, dstW] at hx1
      cases hs2 : stepOp C cl ops true o (putF F x.dst e1) h1 with
      | error e => rw [hs2] at hx1; cases hx1
      | ok r2 =>
        obtain ⟨e2, h2⟩ := r2
        rw [hs2] at hx1
        simp only at hx1
        have hsw : ∃ h3, stepOp C cl ops true o F h = .ok (e2, h3) ∧ stepOp C cl ops true x (putF F o.dst e2) h3 = .ok (e1, h2) ∧ FrEq (putF (putF F x.dst e1) o.dst e2) (putF (putF F o.dst e2) x.dst e1) := by
          obtain ⟨m1, m2, m3⟩ := hap x (by simp)
          cases hcm : calm C.P x.op o.op with
          | true => exact swap hcl m2 hcm hs hs2
          | false =>
            rw [hcm, Bool.false_or] at m3
            exact swapLS hF m1 hom m2 m3 hs hs2
        obtain ⟨h3, k1, k2, k3⟩ := hsw
        obtain ⟨G2, hx2, he2⟩ := execOps_congr _ k3 hx1
        refine ⟨G2, ?_, he1.trans he2⟩
        rw [List.cons_append]
        simp only [execOps, dstW, k1, k2]
        exact hx2

end
end Go.Ai
