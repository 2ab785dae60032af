/-
  What the operations do: zero values, composite values, slices.
-/
import Derived.Test.YtnncfdlpogjlkaaDoorQAiOps3
namespace Go.Ai
set_option linter.unusedVariables false
set_option linter.unusedSimpArgs false
set_option linter.unnecessarySimpa false
open Go.RowKit

section
variable {G : Nat → Option (List AV)} {I : World → Prop} {B0 : Nat} {E : Env}
variable {P : Program} {F : Fr} {a : Act} {d : Option Tmp} {ty : TypeId} {pos : String} {after : Array Edge} {gd : Option (Nat × Bool)}

theorem nilSl_eq : ∀ {v : Value}, nilSl v = true → v = .slice none 0 0
  | .slice none 0 0, _ => rfl

theorem tag_nil {E : Env} {id sz : Nat} {e : TypeId} (h : E.h[id]? = some (.grow 0 sz e)) (hs : E.σ id = none) : TagOk E sz 0 (.slice none 0 0) (some id) := by
  refine ⟨(List.getElem?_eq_some_iff.1 h).1, fun n sz' e' hg => ?_⟩
  rw [h] at hg
  injection hg with hg
  injection hg with h1 h2 h3
  subst h1; subst h2; subst h3
  exact ⟨Nat.le_refl _, fun _ => ⟨fun h => absurd h (by omega), ⟨[], World.ownsRow_nil _ _ _ _⟩, by rw [hs]; rfl⟩⟩

theorem rel_nil_sl {E : Env} {sz : Nat} {own : Option Nat} (h : TagOk E sz 0 (.slice none 0 0) own) : Rel E (.sl sz [] own) (.slice none 0 0) :=
  ⟨⟨none, 0, rfl, Nat.le_refl _, by simp [maxLen], by simp, fun h => absurd rfl h⟩, h⟩

theorem zeroFill_ok (hI : ∀ w w', I w → Below B0 w w' → I w') (H : Good G I B0 E) : ∀ (vs : List Value) (ts : List (Option TypeId)), (∀ v ∈ vs, v.oneCell' = true) →
    ∃ E', Step G I B0 E E' ∧ E'.w = E.w ∧ E'.h = E.h ++ (zeroFill P vs ts E.h.length).2 ∧ Rels1 E' (zeroFill P vs ts E.h.length).1 vs := by
  intro vs
  induction vs generalizing E with
  | nil => intro ts _; exact ⟨E, Step.refl H, rfl, by simp [zeroFill], by simp [zeroFill, Rels1]⟩
  | cons v vs ih =>
    intro ts h1
    have hrest : ∀ u ∈ vs, u.oneCell' = true := fun u hu => h1 u (by simp [hu])
    have plain : ∀ ts', ∃ E', Step G I B0 E E' ∧ E'.w = E.w ∧ E'.h = E.h ++ (zeroFill P vs ts' E.h.length).2 ∧ Rels1 E' (ofConst v :: (zeroFill P vs ts' E.h.length).1) (v :: vs) := by
      intro ts'
      obtain ⟨E', S, k1, k2, k3⟩ := ih H ts' hrest
      exact ⟨E', S, k1, k2, v, vs, rfl, h1 v (by simp), rel_ofConst E' v, k3⟩
    cases ts with
    | nil => simpa [zeroFill] using plain []
    | cons t ts =>
      cases t with
      | none => simpa [zeroFill] using plain ts
      | some e =>
        simp only [zeroFill]
        cases hn : nilSl v with
        | false => simpa using plain ts
        | true =>
          have hv := nilSl_eq hn
          subst hv
          have S0 := step_grow hI H (w' := E.w) (n := 0) (sz := P.cellsOf e) (e := e) (o := none) (Below.refl _ _) (fun g hg => by cases hg)
          obtain ⟨E', S, k1, k2, k3⟩ := ih S0.good ts hrest
          have hlen : ({ E with w := E.w, σ := upd E.σ E.h.length none, h := E.h ++ [Blk.grow 0 (P.cellsOf e) e] } : Env).h.length = E.h.length + 1 := by simp
          rw [hlen] at k2 k3
          refine ⟨E', S0.trans S, k1, by rw [k2]; simp, ?_⟩
          refine ⟨_, vs, rfl, rfl, rel_nil_sl ?_, k3⟩
          have t0 : TagOk ({ E with w := E.w, σ := upd E.σ E.h.length none, h := E.h ++ [Blk.grow 0 (P.cellsOf e) e] } : Env) (P.cellsOf e) 0 (.slice none 0 0) (some E.h.length) :=
            tag_nil (e := e) (by simp) (upd_same _ _ _)
          exact t0.mono S.le

theorem rels1_const {E : Env} : ∀ {vs : List Value}, (∀ v ∈ vs, v.oneCell' = true) → Rels1 E (vs.map ofConst) vs
  | [], _ => rfl
  | v :: vs, h => ⟨v, vs, rfl, h v (by simp), rel_ofConst E v, rels1_const fun u hu => h u (by simp [hu])⟩

theorem zeroOf_ok (hI : ∀ w w', I w → Below B0 w w' → I w') (H : Good G I B0 E) {dr : Bool} {t : TypeId} {cs : List AV} {more : Hp} (h : zeroOf P dr t E.h.length = some (cs, more)) :
    ∃ i z E', P.info? t = some i ∧ i.zero = some z ∧ Step G I B0 E E' ∧ E'.w = E.w ∧ E'.h = E.h ++ more ∧ Rels1 E' cs z.cells.toList := by
  unfold zeroOf at h
  split at h
  · cases h
  · rename_i i hi
    split at h
    · cases h
    · rename_i z hz
      cases hall : z.cells.toList.all (·.oneCell') with
      | false => rw [hall] at h; cases h
      | true =>
        rw [hall] at h
        simp only [Bool.not_true, cond_false] at h
        have h1 : ∀ v ∈ z.cells.toList, v.oneCell' = true := fun v hv => List.all_eq_true.1 hall v hv
        cases dr with
        | true =>
          simp only [Option.some.injEq, Prod.mk.injEq] at h
          obtain ⟨rfl, rfl⟩ := h
          exact ⟨i, z, E, hi, hz, Step.refl H, rfl, by simp, rels1_const h1⟩
        | false =>
          simp only [Option.some.injEq] at h
          obtain ⟨E', S, k1, k2, k3⟩ := zeroFill_ok (P := P) hI H z.cells.toList (slCells P 20 t) h1
          rw [h] at k2 k3
          exact ⟨i, z, E', hi, hz, S, k1, k2, k3⟩

theorem op_alloc (hI : ∀ w w', I w → Below B0 w w' → I w') (H : Good G I B0 E) (t : TypeId) {dr : Bool} {cs : List AV} {more : Hp} (h : zeroOf P dr t E.h.length = some (cs, more)) :
    OpOk P G I B0 E a ⟨d, .alloc t, ty, pos, after, gd⟩ true (.ptr (E.h.length + more.length) 0) (E.h ++ more ++ [.mem t cs]) := by
  obtain ⟨i, z, E', hi, hz, S, k1, k2, k3⟩ := zeroOf_ok hI H h
  have hB : Below E'.w.heap.size E'.w (E'.w.alloc (.cells z.cells t)) := (Below.refl _ _).alloc (Nat.le_refl _) _
  have T := step_mem hI S.good (w' := E'.w.alloc (.cells z.cells t)) (cs := cs) (c := z.cells) (t := t) (fr := (0, 0)) hB (heap_alloc_new _ _) (by simpa using Nat.le_of_eq k3.length.symm)
    (fun j _ => World.frozen?_alloc_new _ _ _ _) (fun j y hy => by
      obtain ⟨u, q1, q2, q3⟩ := rels1_get k3 hy
      exact ⟨u, by simpa using q1, q2, q3⟩)
  have hl : E'.h.length = E.h.length + more.length := by rw [k2]; simp
  refine ⟨.pointer (some ⟨E.w.heap.size, 0, none⟩), _, .inl ?_, S.trans T, by simp [k2], fun _ => ⟨t, cs, E.w.heap.size, ?_, ?_, rfl⟩, fun h => by cases h⟩
  · simp [execOp, Instr.alloc, zeroValue, typeInfo, hi, hz, newVar, newRow, k1]
  · show (E'.h ++ [Blk.mem t cs])[E.h.length + more.length]? = _
    rw [← hl]
    simp
  · show upd E'.σ E'.h.length (some E'.w.heap.size) (E.h.length + more.length) = _
    rw [← hl, upd_same, k1]

theorem op_nilslice (hI : ∀ w w', I w → Below B0 w w' → I w') (H : Good G I B0 E) (e : TypeId) (sz : Nat) {o : Oper} (hr : (execOp a.eval o).run P E.w = .ok (.value (.slice none 0 0)) E.w) :
    OpOk P G I B0 E a o true (.sl sz [] (some E.h.length)) (E.h ++ [.grow 0 sz e]) := by
  have S0 := step_grow hI H (w' := E.w) (n := 0) (sz := sz) (e := e) (o := none) (Below.refl _ _) (fun g hg => by cases hg)
  exact ⟨.slice none 0 0, { E with w := E.w, σ := upd E.σ E.h.length none, h := E.h ++ [.grow 0 sz e] }, .inl hr, S0, rfl, fun _ => rel_nil_sl (tag_nil (e := e) (by simp) (upd_same _ _ _)), fun h => by cases h⟩

theorem toList_fold (cells : Array Value) (vs : List Value) (off k : Nat) (h : off + k + vs.length ≤ cells.size) :
    ((vs.zipIdx k).foldl (fun cs (c, j) => cs.setIfInBounds (off + j) c) cells).toList = cells.toList.take (off + k) ++ vs ++ cells.toList.drop (off + k + vs.length) := by
  induction vs generalizing cells k with
  | nil => simp
  | cons v vs ih =>
    simp only [List.length_cons] at h
    rw [List.zipIdx_cons, List.foldl_cons]
    have := ih (cells.setIfInBounds (off + k) v) (k + 1) (by simp; omega)
    rw [show off + (k + 1) = off + k + 1 by omega] at this
    rw [this]
    have e := list_seg_step cells.toList (off + k) v vs (by simp; omega)
    simpa [Array.toList_setIfInBounds, Nat.add_assoc] using e

theorem fill_ok {place : Nat → Option (Nat × Nat)} : ∀ (ps : List (Nat × AV)) (qs : List (Nat × Value)) (cs : List AV) (vs : Array Value) {r : List AV}, fillA place cs ps = some r → Rels1 E cs vs.toList →
    ps.map (·.1) = qs.map (·.1) → (∀ (k : Nat) p q, ps[k]? = some p → qs[k]? = some q → flatOk p.2 = true ∧ Rel E p.2 q.2) →
    ∃ ws, Instr.fill place vs qs = some ws ∧ Rels1 E r ws.toList := by
  intro ps
  induction ps with
  | nil =>
    intro qs cs vs r h hv hm _
    cases qs with
    | nil =>
      simp only [fillA, Option.some.injEq] at h
      subst h
      exact ⟨vs, rfl, hv⟩
    | cons q qs => simp at hm
  | cons p ps ih =>
    intro qs cs vs r h hv hm hr
    cases qs with
    | nil => simp at hm
    | cons q qs =>
      obtain ⟨i, x⟩ := p
      obtain ⟨i', y⟩ := q
      simp only [List.map_cons, List.cons.injEq] at hm
      obtain ⟨rfl, hm⟩ := hm
      obtain ⟨hfl, hrel⟩ := hr 0 (i, x) (i, y) rfl rfl
      simp only at hfl hrel
      have hc := flat_ok hrel hfl
      have hcl := hc.length
      simp only [fillA] at h
      simp only [Instr.fill]
      cases hp : place i with
      | none => rw [hp] at h; cases h
      | some os =>
        obtain ⟨off, size⟩ := os
        rw [hp] at h
        simp only at h ⊢
        cases hb : (Nat.beq (flat x).length size && Nat.ble (off + size) cs.length) with
        | false => rw [hb] at h; cases h
        | true =>
          rw [hb] at h
          simp only [cond_true] at h
          simp only [Bool.and_eq_true] at hb
          have e1 : (flat x).length = size := Nat.eq_of_beq_eq_true hb.1
          have e2 : off + size ≤ cs.length := Nat.le_of_ble_eq_true hb.2
          have e3 : y.cells.size = size := by have : y.cells.toList.length = size := by omega
                                              simpa using this
          have e4 : vs.size = cs.length := by have := hv.length; simpa using this
          have hcond : (decide (y.cells.size ≠ size) || decide (off + y.cells.size > vs.size)) = false := by
            simp [e3]; omega
          rw [if_neg (by rw [hcond]; simp)]
          have hfold : (y.cells.zipIdx.foldl (fun cs (x : Value × Nat) => cs.setIfInBounds (off + x.2) x.1) vs).toList = vs.toList.take off ++ y.cells.toList ++ vs.toList.drop (off + y.cells.toList.length) := by
            have := toList_fold vs y.cells.toList off 0 (by simp; omega)
            simp only [Nat.add_zero] at this
            rw [← this, ← Array.foldl_toList, Array.toList_zipIdx]
          refine ih qs _ _ h ?_ hm (fun k p q hp hq => hr (k + 1) p q (by simpa using hp) (by simpa using hq))
          rw [hfold]
          exact rels1_splice hv hc off

theorem op_build (hI : ∀ w w', I w → Below B0 w w' → I w') (H : Good G I B0 E) (hf : FrsOk E F a) (t : TypeId) (parts : Array (Nat × Operand)) {dr : Bool} {fs : Array Field} {z cs : List AV} {more : Hp}
    (ht : P.underlying t = some (.struct fs)) (hz : zeroOf P dr t E.h.length = some (z, more))
    (hall : (parts.toList.all fun p => (ev G F p.2).1 && flatOk (ev G F p.2).2) = true)
    (hfs : (fs.toList.all fun f => (P.info? f.type).isSome) = true)
    (hc : fillA (fun i => (fs[i]?).map fun f => (f.offset, P.cellsOf f.type)) z (parts.toList.map fun p => (p.1, (ev G F p.2).2)) = some cs) :
    OpOk P G I B0 E a ⟨d, .build t parts, ty, pos, after, gd⟩ true (.agg cs) (E.h ++ more) := by
  obtain ⟨i, zz, E', hi, hzz, S, k1, k2, k3⟩ := zeroOf_ok hI H hz
  have hf' := FrsOk.mono S.le hf
  have hplaces : ∀ (l : List Field) (w : World), (∀ f ∈ l, (P.info? f.type).isSome = true) → (l.mapM (m := Sem) fun (f : Field) => do pure (f.offset, ← sizeOf f.type)).run P w = .ok (l.map fun f => (f.offset, P.cellsOf f.type)) w := by
    intro l
    induction l with
    | nil => intro w _; simp
    | cons f l ih =>
      intro w h
      obtain ⟨j, hj⟩ := Option.isSome_iff_exists.1 (h f (by simp))
      have := ih w (fun g hg => h g (by simp [hg]))
      simp only [List.mapM_cons, Sem.run_bind, sizeOf, typeInfo, run_program, Result.andThen_ok, hj, Sem.run_pure] at this ⊢
      rw [this]
      simp [Program.cellsOf, hj]
  obtain ⟨ws, q1, q2⟩ := fill_ok (E := E') (place := fun i => (fs[i]?).map fun f => (f.offset, P.cellsOf f.type)) (parts.toList.map fun p => (p.1, (ev G F p.2).2)) (parts.toList.map fun p => (p.1, a.eval p.2)) z zz.cells hc k3 (by simp)
    (fun k p q hp hq => by
      rw [List.getElem?_map] at hp hq
      cases hk : parts.toList[k]? with
      | none => rw [hk] at hp; cases hp
      | some x =>
        rw [hk] at hp hq
        simp only [Option.map_some, Option.some.injEq] at hp hq
        subst hp; subst hq
        have hx := List.all_eq_true.1 hall x (List.mem_of_getElem? hk)
        simp only [Bool.and_eq_true] at hx
        exact ⟨hx.2, (ev_ok S.good hf' x.2).1 hx.1⟩)
  refine ⟨.agg ws, E', .inl ?_, S, k2, fun _ => ⟨_, rfl, q2⟩, fun h => by cases h⟩
  have hpl := hplaces fs.toList E.w (fun f hf => List.all_eq_true.1 hfs f hf)
  have hpl' : (fs.mapM (m := Sem) fun (f : Field) => do pure (f.offset, ← sizeOf f.type)).run P E.w = .ok ((fs.toList.map fun (f : Field) => (f.offset, P.cellsOf f.type)).toArray) E.w := by
    rw [Array.mapM_eq_mapM_toList, Sem.run_map, hpl]
    rfl
  have hfn : (fun (i : Nat) => ((fs.toList.map fun (f : Field) => (f.offset, P.cellsOf f.type)).toArray)[i]?) = (fun (i : Nat) => (fs[i]?).map fun (f : Field) => (f.offset, P.cellsOf f.type)) := by
    funext i
    simp
  have hparts : (parts.map fun x => (x.1, a.eval x.2)).toList = parts.toList.map fun p => (p.1, a.eval p.2) := by simp
  show (do pure (Next.value (← Instr.build t (parts.map fun (i, x) => (i, a.eval x)))) : Sem Next).run P E.w = _
  have hb : (Instr.build t (parts.map fun (i, x) => (i, a.eval x))).run P E.w = .ok (.agg ws) E.w := by
    unfold Instr.build
    rw [Sem.run_bind, show (zeroValue t).run P E.w = .ok zz E.w from by simp [zeroValue, typeInfo, hi, hzz], Result.andThen_ok, Sem.run_bind, run_underlying ht, Result.andThen_ok]
    simp only [Sem.run_bind]
    rw [hpl', Result.andThen_ok, hparts, hfn, q1]
    rfl
  rw [Sem.run_bind, hb, k1]
  rfl

theorem op_build_arr (hI : ∀ w w', I w → Below B0 w w' → I w') (H : Good G I B0 E) (hf : FrsOk E F a) (t : TypeId) (parts : Array (Nat × Operand)) {dr : Bool} {m : Nat} {e : TypeId} {z cs : List AV} {more : Hp}
    (ht : P.underlying t = some (.array m e)) (hz : zeroOf P dr t E.h.length = some (z, more))
    (hall : (parts.toList.all fun p => (ev G F p.2).1 && flatOk (ev G F p.2).2) = true)
    (hfs : (P.info? e).isSome = true)
    (hc : fillA (fun i => some (i * P.cellsOf e, P.cellsOf e)) z (parts.toList.map fun p => (p.1, (ev G F p.2).2)) = some cs) :
    OpOk P G I B0 E a ⟨d, .build t parts, ty, pos, after, gd⟩ true (.agg cs) (E.h ++ more) := by
  obtain ⟨i, zz, E', hi, hzz, S, k1, k2, k3⟩ := zeroOf_ok hI H hz
  have hf' := FrsOk.mono S.le hf
  obtain ⟨ws, q1, q2⟩ := fill_ok (E := E') (place := fun i => some (i * P.cellsOf e, P.cellsOf e)) (parts.toList.map fun p => (p.1, (ev G F p.2).2)) (parts.toList.map fun p => (p.1, a.eval p.2)) z zz.cells hc k3 (by simp)
    (fun k p q hp hq => by
      rw [List.getElem?_map] at hp hq
      cases hk : parts.toList[k]? with
      | none => rw [hk] at hp; cases hp
      | some x =>
        rw [hk] at hp hq
        simp only [Option.map_some, Option.some.injEq] at hp hq
        subst hp; subst hq
        have hx := List.all_eq_true.1 hall x (List.mem_of_getElem? hk)
        simp only [Bool.and_eq_true] at hx
        exact ⟨hx.2, (ev_ok S.good hf' x.2).1 hx.1⟩)
  refine ⟨.agg ws, E', .inl ?_, S, k2, fun _ => ⟨_, rfl, q2⟩, fun h => by cases h⟩
  obtain ⟨ei, hei⟩ := Option.isSome_iff_exists.1 hfs
  have hsz : (sizeOf e).run P E.w = .ok (P.cellsOf e) E.w := by simp [sizeOf, typeInfo, hei, Program.cellsOf]
  have hparts : (parts.map fun x => (x.1, a.eval x.2)).toList = parts.toList.map fun p => (p.1, a.eval p.2) := by simp
  show (do pure (Next.value (← Instr.build t (parts.map fun (i, x) => (i, a.eval x)))) : Sem Next).run P E.w = _
  have hb : (Instr.build t (parts.map fun (i, x) => (i, a.eval x))).run P E.w = .ok (.agg ws) E.w := by
    unfold Instr.build
    rw [Sem.run_bind, show (zeroValue t).run P E.w = .ok zz E.w from by simp [zeroValue, typeInfo, hi, hzz], Result.andThen_ok, Sem.run_bind, run_underlying ht, Result.andThen_ok]
    simp only [Sem.run_bind]
    rw [hsz, Result.andThen_ok, hparts, q1]
    rfl
  rw [Sem.run_bind, hb, k1]
  rfl

end
end Go.Ai
