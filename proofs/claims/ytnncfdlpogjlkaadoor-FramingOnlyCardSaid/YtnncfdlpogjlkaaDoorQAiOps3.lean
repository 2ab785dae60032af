/-
  What the operations do: those that make or write memory.
-/
import Derived.Test.YtnncfdlpogjlkaaDoorQAiOps2
namespace Go.Ai
set_option linter.unusedVariables false
set_option linter.unusedSimpArgs false
set_option linter.unnecessarySimpa false
open Go.RowKit

theorem run_storeCells_g (P : Program) (g o : Nat) (t : TypeId) (fr : Nat × Nat) : ∀ (vs : List Value) (i : Nat) (cur : Array Value) (w : World), w.heap[g]? = some (.cells cur t fr) → o + i + vs.length ≤ cur.size →
    (∀ j, o + i ≤ j → j < o + i + vs.length → w.frozen? ⟨g, j, none⟩ = false) → (∀ v ∈ vs, v.oneCell' = true) →
    (storeCells ⟨g, o, none⟩ vs i).run P w = .ok () (w.setRow g (cur.toList.take (o + i) ++ vs ++ cur.toList.drop (o + i + vs.length)).toArray) := by
  intro vs
  induction vs with
  | nil =>
    intro i cur w hg _ _ _
    simp only [storeCells, List.append_nil, List.length_nil, Nat.add_zero, List.take_append_drop, Array.toArray_toList]
    rw [setRow_self w g cur t fr hg]
    rfl
  | cons v rest ih =>
    intro i cur w hg hl hfr h1
    simp only [List.length_cons] at hl hfr
    have hi : o + i < cur.size := by omega
    have hadd : (⟨g, o, none⟩ : Addr).add i = ⟨g, o + i, none⟩ := Addr.add_lit g o i
    have hcell : w.cell? ⟨g, o + i, none⟩ = some cur[o + i] := by simp [World.cell?, hg, hi]
    have hst : (store ((⟨g, o, none⟩ : Addr).add i) v).run P w = .ok () (w.setRow g (cur.setIfInBounds (o + i) v)) := by
      rw [hadd, run_store P w _ v _ (h1 v (by simp)), hcell]
      simp [hfr (o + i) (Nat.le_refl _) (by omega), setCell_eq_setRow w g (o + i) cur t fr v hg]
    have hnew := setRow_heap w g cur (cur.setIfInBounds (o + i) v) t fr hg
    have k := ih (i + 1) (cur.setIfInBounds (o + i) v) (w.setRow g (cur.setIfInBounds (o + i) v)) hnew (by simp; omega) (fun j hj1 hj2 => by
      have := hfr j (by omega) (by omega)
      simp only [World.frozen?, hg] at this
      simp only [World.frozen?, hnew]
      exact this) (fun x hx => h1 x (by simp [hx]))
    simp only [storeCells, Sem.run_bind, hst, Result.andThen_ok, k, setRow_setRow]
    congr 3
    have e := list_seg_step cur.toList (o + i) v rest (by simp; omega)
    simpa [Array.toList_setIfInBounds, Nat.add_assoc] using e

section
variable {G : Nat → Option (List AV)} {I : World → Prop} {B0 : Nat} {E : Env}
variable {P : Program} {F : Fr} {a : Act} {d : Option Tmp} {ty : TypeId} {pos : String} {after : Array Edge} {gd : Option (Nat × Bool)}

/-- The cells of a value. -/
theorem flat_ok {E : Env} {x : AV} {c : Value} (h : Rel E x c) (hf : flatOk x = true) : Rels1 E (flat x) c.cells.toList := by
  cases x <;> simp only [flatOk, one, Bool.false_eq_true] at hf
  case agg cs =>
    obtain ⟨vs, rfl, h2⟩ := h
    simpa [flat, Value.cells] using h2
  case sl sz es own =>
    have h' := h
    obtain ⟨⟨A, cap, rfl, _⟩, _⟩ := h
    exact ⟨_, [], rfl, rfl, h', rfl⟩
  case ptr b o =>
    have h' := h
    obtain ⟨_, cs, g, _, _, rfl⟩ := h
    exact ⟨_, [], rfl, rfl, h', rfl⟩
  case osl b off len sz =>
    have h' := h
    obtain ⟨_, cs, g, cap, _, _, rfl, _⟩ := h
    exact ⟨_, [], rfl, rfl, h', rfl⟩
  case itr b =>
    have h' := h
    obtain ⟨_, _, g, _, _, rfl⟩ := h
    exact ⟨_, [], rfl, rfl, h', rfl⟩
  all_goals
    first
      | (have h' := h
         simp only [Rel] at h'
         subst h'
         exact ⟨_, [], rfl, rfl, h, rfl⟩)
      | (have h' := h
         obtain ⟨y, rfl, _⟩ := h'
         exact ⟨_, [], rfl, rfl, h, rfl⟩)
      | (have h' := h
         obtain ⟨y, z, rfl, _⟩ := h'
         exact ⟨_, [], rfl, rfl, h, rfl⟩)

theorem rels1_get {xs : List AV} {vs : List Value} (h : Rels1 E xs vs) {j : Nat} {x : AV} (hx : xs[j]? = some x) : ∃ v, vs[j]? = some v ∧ v.oneCell' = true ∧ Rel E x v := by
  obtain ⟨hl, h⟩ := Rels1.iff.1 h
  have hj : j < vs.length := by rw [hl]; exact (List.getElem?_eq_some_iff.1 hx).1
  have hv : vs[j]? = some vs[j] := List.getElem?_eq_getElem hj
  exact ⟨_, hv, h j x _ hx hv⟩

theorem rels1_one {xs : List AV} {vs : List Value} (h : Rels1 E xs vs) : ∀ v ∈ vs, v.oneCell' = true := by
  intro v hv
  obtain ⟨j, hj, rfl⟩ := List.mem_iff_getElem.1 hv
  obtain ⟨hl, h⟩ := Rels1.iff.1 h
  have hx : xs[j]? = some (xs[j]'(by omega)) := List.getElem?_eq_getElem _
  exact (h j _ _ hx (List.getElem?_eq_getElem hj)).1

theorem rels1_append {xs ys : List AV} {vs ws : List Value} (h : Rels1 E xs vs) (k : Rels1 E ys ws) : Rels1 E (xs ++ ys) (vs ++ ws) := by
  induction xs generalizing vs with
  | nil => simp only [Rels1] at h; simpa [h] using k
  | cons c cs ih =>
    obtain ⟨v, r, rfl, h1, h2, h3⟩ := h
    exact ⟨v, r ++ ws, rfl, h1, h2, ih h3⟩

theorem rels1_drop {xs : List AV} {vs : List Value} (h : Rels1 E xs vs) (n : Nat) : Rels1 E (xs.drop n) (vs.drop n) := by
  obtain ⟨hl, h⟩ := Rels1.iff.1 h
  refine Rels1.iff.2 ⟨by simp [hl], fun j c v hc hv => ?_⟩
  rw [List.getElem?_drop] at hc hv
  exact h _ c v hc hv

theorem rels1_splice {xs ys : List AV} {vs ws : List Value} (h : Rels1 E xs vs) (k : Rels1 E ys ws) (o : Nat) : Rels1 E (splice xs o ys) (vs.take o ++ ws ++ vs.drop (o + ws.length)) := by
  unfold splice
  rw [k.length]
  exact rels1_append (rels1_append (h.take o) k) (rels1_drop h _)

theorem splice_get {α : Type} (c ws : List α) (n o j : Nat) (hn : n ≤ c.length) (ho : o + ws.length ≤ n) (hj : j < n) :
    ((c.take n).take o ++ ws ++ (c.take n).drop (o + ws.length))[j]? = (c.take o ++ ws ++ c.drop (o + ws.length))[j]? := by
  have e1 : (c.take n).take o = c.take o := by rw [List.take_take]; congr 1; omega
  have hl : (c.take o ++ ws).length = o + ws.length := by simp; omega
  rw [e1, List.getElem?_append, List.getElem?_append (l₁ := c.take o ++ ws), hl]
  by_cases h : j < o + ws.length
  · rw [if_pos h, if_pos h]
  · rw [if_neg h, if_neg h, List.getElem?_drop, List.getElem?_drop, List.getElem?_take, if_pos (by omega)]

theorem op_store (hI : ∀ w w', I w → Below B0 w w' → I w') (H : Good G I B0 E) (hf : FrsOk E F a) (t : TypeId) (x y : Operand) {g g' : Bool} {b o : Nat} {v : AV} {t0 : TypeId} {cs : List AV} {i : TypeInfo}
    (hx : ev G F x = (g, .ptr b o)) (hy : ev G F y = (g', v)) (hb : E.h[b]? = some (.mem t0 cs)) (hi : P.info? t = some i) (hob : (g && g' && flatOk v) = true)
    (hs : (Nat.beq (flat v).length i.size && Nat.ble (o + i.size) cs.length) = true) :
    OpOk P G I B0 E a ⟨d, .store t x y, ty, pos, after, gd⟩ true .top (E.h.set b (.mem t0 (splice cs o (flat v)))) := by
  simp only [Bool.and_eq_true] at hob hs
  obtain ⟨⟨hg, hg'⟩, hfl⟩ := hob
  have hlen : (flat v).length = i.size := Nat.eq_of_beq_eq_true hs.1
  have hle : o + i.size ≤ cs.length := Nat.le_of_ble_eq_true hs.2
  obtain ⟨_, _, gg, _, h3, h4⟩ := ev_rel H hf hx hg
  have hv := flat_ok (ev_rel H hf hy hg') hfl
  have hvl := hv.length
  obtain ⟨g2, c, fr, k1, k2, k3, k4, k5, k6⟩ := H.blk b _ hb
  rw [h3] at k1
  injection k1 with k1
  subst k1
  have hst := run_storeCells_g P gg o t0 fr (a.eval y).cells.toList 0 c E.w k3 (by omega) (fun j hj1 hj2 => k5 j (by omega)) (rels1_one hv)
  simp only [Nat.add_zero] at hst
  have hold : Rels1 E cs (c.toList.take cs.length) := Rels1.iff.2 ⟨by simp; omega, fun j x u hx hu => by
    have hj := (List.getElem?_eq_some_iff.1 hx).1
    rw [List.getElem?_take, if_pos hj] at hu
    obtain ⟨u', q1, q2, q3⟩ := k6 j x hx
    have : u' = u := by
      have : c.toList[j]? = some u' := by simpa using q1
      rw [this] at hu
      injection hu
    subst this
    exact ⟨q2, q3⟩⟩
  have S := step_store hI H (w' := E.w.setRow gg (c.toList.take o ++ (a.eval y).cells.toList ++ c.toList.drop (o + (a.eval y).cells.toList.length)).toArray) (ds := splice cs o (flat v)) hb h3 k3
    ⟨rfl, rfl, rfl, by simp [World.setRow], fun k _ hk => setRow_other _ _ _ _ (fun e => hk (by rw [e]))⟩ (by simp [World.setRow]) (setRow_heap _ _ _ _ _ _ k3)
    (by simp only [List.size_toArray, List.length_append, List.length_take, List.length_drop]; rw [show c.toList.length = c.size from by simp]; omega)
    (by simp only [splice, List.length_append, List.length_take, List.length_drop]; omega)
    (fun j x hjx => by
      have hsp := rels1_splice hold hv o
      obtain ⟨u, q1, q2, q3⟩ := rels1_get hsp hjx
      refine ⟨u, ?_, q2, q3⟩
      have hjl : j < cs.length := by
        have := (List.getElem?_eq_some_iff.1 hjx).1
        simp only [splice, List.length_append, List.length_take, List.length_drop] at this
        omega
      rw [List.getElem?_toArray, ← splice_get c.toList _ cs.length o j (by simpa using k4) (by omega) hjl]
      exact q1)
  refine ⟨undef, _, .inr ⟨?_, rfl⟩, S, rfl, fun _ => trivial, fun h => by cases h⟩
  have hsz : (a.eval y).cells.size = i.size := by
    have : (a.eval y).cells.toList.length = i.size := by omega
    simpa using this
  simp [execOp, h4, Instr.storeAt, Instr.sureAddr, storeVar, sizeOf, typeInfo, hi, hsz, hst]

theorem op_box (hI : ∀ w w', I w → Below B0 w w' → I w') (H : Good G I B0 E) (hf : FrsOk E F a) (t : TypeId) (x : Operand) (hob : ((ev G F x).1 && flatOk (ev G F x).2) = true) :
    OpOk P G I B0 E a ⟨d, .box t x, ty, pos, after, gd⟩ true (.ptr E.h.length 0) (E.h ++ [.mem t (flat (ev G F x).2)]) := by
  simp only [Bool.and_eq_true] at hob
  have hv := flat_ok ((ev_ok H hf x).1 hob.1) hob.2
  have hvl := hv.length
  have hB : Below E.w.heap.size E.w (E.w.alloc (.cells (a.eval x).cells t)) := (Below.refl _ _).alloc (Nat.le_refl _) _
  have S := step_mem hI H (w' := E.w.alloc (.cells (a.eval x).cells t)) (cs := flat (ev G F x).2) (c := (a.eval x).cells) (t := t) (fr := (0, 0)) hB (heap_alloc_new _ _) (by simpa using Nat.le_of_eq hvl.symm)
    (fun j _ => World.frozen?_alloc_new _ _ _ _) (fun j y hy => by
      obtain ⟨u, q1, q2, q3⟩ := rels1_get hv hy
      exact ⟨u, by simpa using q1, q2, q3⟩)
  refine ⟨.pointer (some ⟨E.w.heap.size, 0, none⟩), _, .inl ?_, S, rfl, fun _ => ⟨t, flat (ev G F x).2, E.w.heap.size, by simp, upd_same _ _ _, rfl⟩, fun h => by cases h⟩
  simp [execOp, Instr.box, newVar, newRow]
end
end Go.Ai
