/-
  What the operations do: slices.
-/
import Derived.Test.YtnncfdlpogjlkaaDoorQAiOps4
namespace Go.Ai
set_option linter.unusedVariables false
set_option linter.unusedSimpArgs false
set_option linter.unnecessarySimpa false
open Go.RowKit

section
variable {G : Nat → Option (List AV)} {I : World → Prop} {B0 : Nat} {E : Env}
variable {P : Program} {F : Fr} {a : Act} {d : Option Tmp} {ty : TypeId} {pos : String} {after : Array Edge} {gd : Option (Nat × Bool)}

theorem fill_slice {sz : Nat} : ∀ (ps : List Operand) (k : Nat) (cells : Array Value), (∀ x ∈ ps, (a.eval x).cells.size = sz) → (k + ps.length) * sz ≤ cells.size →
    ∃ r, Instr.fill (fun i => some (i * sz, sz)) cells (((ps.zipIdx k).map fun x => (x.2, a.eval x.1))) = some r ∧
      r.toList = cells.toList.take (k * sz) ++ (ps.map fun x => (a.eval x).cells.toList).flatten ++ cells.toList.drop ((k + ps.length) * sz) := by
  intro ps
  induction ps with
  | nil => intro k cells _ _; exact ⟨cells, rfl, by simp⟩
  | cons x ps ih =>
    intro k cells h1 h2
    simp only [List.length_cons] at h2 ⊢
    have hx := h1 x (by simp)
    have hk : (k + 1) * sz ≤ cells.size := Nat.le_trans (Nat.mul_le_mul_right _ (by omega)) h2
    rw [Nat.add_mul, Nat.one_mul] at hk
    simp only [List.zipIdx_cons, List.map_cons, Instr.fill]
    have hcond : (decide ((a.eval x).cells.size ≠ sz) || decide (k * sz + (a.eval x).cells.size > cells.size)) = false := by
      simp [hx]; omega
    rw [if_neg (by rw [hcond]; simp)]
    have hfold := toList_fold cells (a.eval x).cells.toList (k * sz) 0 (by simp [hx]; omega)
    simp only [Nat.add_zero] at hfold
    rw [← Array.toList_zipIdx, Array.foldl_toList] at hfold
    have hl : (a.eval x).cells.toList.length = sz := by simpa using hx
    obtain ⟨r, q1, q2⟩ := ih (k + 1) ((a.eval x).cells.zipIdx.foldl (fun cs (x : Value × Nat) => cs.setIfInBounds (k * sz + x.2) x.1) cells) (fun y hy => h1 y (by simp [hy])) (by
      have : ((a.eval x).cells.zipIdx.foldl (fun cs (x : Value × Nat) => cs.setIfInBounds (k * sz + x.2) x.1) cells).toList.length = cells.size := by
        rw [hfold]; simp only [List.length_append, List.length_take, List.length_drop, Array.length_toList, hl]
        omega
      rw [Array.length_toList] at this
      rw [this, show k + 1 + ps.length = k + (ps.length + 1) by omega]
      exact h2)
    refine ⟨r, q1, ?_⟩
    rw [q2, hfold]
    have e1 : (cells.toList.take (k * sz) ++ (a.eval x).cells.toList ++ cells.toList.drop (k * sz + (a.eval x).cells.toList.length)).take ((k + 1) * sz) = cells.toList.take (k * sz) ++ (a.eval x).cells.toList := by
      rw [List.take_left' (by simp only [List.length_append, List.length_take, Array.length_toList, hl]; rw [Nat.add_mul, Nat.one_mul]; omega)]
    have e2 : (cells.toList.take (k * sz) ++ (a.eval x).cells.toList ++ cells.toList.drop (k * sz + (a.eval x).cells.toList.length)).drop ((k + 1 + ps.length) * sz) = cells.toList.drop ((k + (ps.length + 1)) * sz) := by
      have hlen : (cells.toList.take (k * sz) ++ (a.eval x).cells.toList).length = (k + 1) * sz := by
        simp only [List.length_append, List.length_take, Array.length_toList]; rw [Nat.add_mul, Nat.one_mul, hx]; omega
      have hge : (k + 1) * sz ≤ (k + 1 + ps.length) * sz := Nat.mul_le_mul_right _ (by omega)
      rw [List.drop_append, hlen, List.drop_eq_nil_of_le (by rw [hlen]; exact hge), List.nil_append, List.drop_drop, hl, show k * sz + sz = (k + 1) * sz by rw [Nat.add_mul, Nat.one_mul],
        show (k + 1) * sz + ((k + 1 + ps.length) * sz - (k + 1) * sz) = (k + (ps.length + 1)) * sz by rw [Nat.add_sub_cancel' hge]; congr 1; omega]
    rw [e1, e2]
    simp [List.append_assoc]

/-- The new row of a slice literal, or of an append: its cells as they are seen. -/
theorem rows_of_own {E : Env} {es : List (List AV)} {sz n : Nat} {e : TypeId} {v : Value} {xs : List Value} {id : Nat} (hu : ∀ r ∈ es, r.length = sz) (hlen : es.length = n) (hg : E.h[id]? = some (.grow n sz e))
    (hb : v.ownBlock = E.σ id) (hown : E.w.ownsRow E.B e sz v n xs) (hrel : Rels1 E es.flatten xs) (hU : ∀ b o, E.U b o → b < E.B)
    (hinj : ∀ (j : Nat) y g, E.h[j]? = some y → y ≠ .dead → E.σ j = some g → E.σ id = some g → j = id) :
    Rel E (.sl sz es (some id)) v := by
  have htag : TagOk E sz es.length v (some id) := by
    refine ⟨(List.getElem?_eq_some_iff.1 hg).1, fun n' sz' e' h => ?_⟩
    rw [hg] at h
    injection h with h
    injection h with h1 h2 h3
    subst h1; subst h2; subst h3
    exact ⟨Nat.le_of_eq hlen, fun _ => ⟨fun _ => rfl, ⟨xs, hown⟩, hb⟩⟩
  rcases hown.2 with ⟨rfl, hn⟩ | ⟨g, cap, cur, rfl, hbg, hgg, hnc, hcm, hcs, htake⟩
  · have : es = [] := List.eq_nil_of_length_eq_zero (by omega)
    subst this
    exact ⟨⟨none, 0, rfl, Nat.le_refl _, by simp [maxLen], by simp, fun h => absurd rfl h⟩, htag⟩
  · refine ⟨⟨some ⟨g, 0, none⟩, cap, by rw [hlen], by omega, hcm, hu, fun _ => ⟨_, rfl, ?_⟩⟩, htag⟩
    rw [Rows.iff, At.iff]
    intro j x hj
    obtain ⟨u, q1, q2, q3⟩ := rels1_get hrel hj
    have hc := hown.cells (g := g) rfl j u q1
    have hjl : j < n * sz := by rw [← hown.1]; exact (List.getElem?_eq_some_iff.1 q1).1
    refine ⟨u, hc, q2, ⟨fun hb => ?_, fun j' y hy hs => ?_⟩, q3⟩
    · have := hU _ _ hb
      simp only at this
      omega
    · cases y with
      | dead => exact .inl rfl
      | mem _ cs =>
        have := hinj j' _ g hy (by simp) hs hb.symm
        subst this
        rw [hg] at hy
        cases hy
      | iter _ _ =>
        have := hinj j' _ g hy (by simp) hs hb.symm
        subst this
        rw [hg] at hy
        cases hy
      | grow n' sz' e' =>
        have := hinj j' _ g hy (by simp) hs hb.symm
        subst this
        rw [hg] at hy
        injection hy with hy
        injection hy with h1 h2 h3
        subst h1; subst h2; subst h3
        exact .inr ⟨n, sz, e, rfl, by simpa using hjl⟩

theorem flatten_len {sz : Nat} : ∀ (es : List (List AV)), (∀ r ∈ es, r.length = sz) → es.flatten.length = es.length * sz
  | [], _ => by simp
  | e :: es, h => by
    rw [List.flatten_cons, List.length_append, flatten_len es (fun r hr => h r (by simp [hr])), h e (by simp), List.length_cons, Nat.add_mul, Nat.one_mul, Nat.add_comm]

theorem rels1_flatten {E : Env} : ∀ (es : List (List AV)) (vs : List (List Value)), es.length = vs.length → (∀ (k : Nat) e v, es[k]? = some e → vs[k]? = some v → Rels1 E e v) → Rels1 E es.flatten vs.flatten
  | [], [], _, _ => by simp [Rels1]
  | [], _ :: _, h, _ => by simp at h
  | _ :: _, [], h, _ => by simp at h
  | e :: es, v :: vs, h, hr => by
    rw [List.flatten_cons, List.flatten_cons]
    exact rels1_append (hr 0 e v rfl rfl) (rels1_flatten es vs (by simpa using h) fun k a b ha hb => hr (k + 1) a b (by simpa using ha) (by simpa using hb))

theorem slice_literal (H : Good G I B0 E) (hf : FrsOk E F a) (t e : TypeId) (len sz : Nat) (parts : Array (Nat × Operand))
    (ht : P.underlying t = some (.slice e)) (hsz : P.cellsOf e = sz) (hpos : 0 < sz) (hzero : ((P.info? e).bind (·.zero)).isSome = true) (hle : len * sz ≤ 16777216) (hn : parts.size = len) (hidx : (parts.toList.zipIdx.all fun p => Nat.beq p.1.1 p.2) = true)
    (hfl : ∀ p ∈ parts.toList, (flat (ev G F p.2).2).length = sz) (hall : (parts.toList.all fun p => (ev G F p.2).1 && flatOk (ev G F p.2).2) = true) :
    ∃ cells : Array Value, (execOp a.eval ⟨d, .buildSlice t len parts, ty, pos, after, gd⟩).run P E.w = .ok (.value (.slice (some ⟨E.w.heap.size, 0, none⟩) len len)) (E.w.alloc (.cells cells e)) ∧
      cells.size = len * sz ∧ ∀ E' : Env, Le E E' → Rels1 E' (parts.toList.map fun p => flat (ev G F p.2).2).flatten cells.toList := by
  obtain ⟨i, hi, his⟩ := cellsOf_info hsz hpos
  have hparts : parts.toList = (parts.toList.map (·.2)).zipIdx.map fun x => (x.2, x.1) := by
    apply List.ext_getElem?
    intro k
    rw [List.getElem?_map, List.getElem?_zipIdx, List.getElem?_map]
    cases hk : parts.toList[k]? with
    | none => simp
    | some p =>
      have hz : parts.toList.zipIdx[k]? = some (p, k) := by rw [List.getElem?_zipIdx, hk]; simp
      have := List.all_eq_true.1 hidx _ (List.mem_of_getElem? hz)
      have hpk : p.1 = k := Nat.eq_of_beq_eq_true this
      simp [← hpk]
  have hval : ∀ p ∈ parts.toList, Rels1 E (flat (ev G F p.2).2) (a.eval p.2).cells.toList := by
    intro p hp
    have := List.all_eq_true.1 hall p hp
    simp only [Bool.and_eq_true] at this
    exact flat_ok ((ev_ok H hf p.2).1 this.1) this.2
  have hcs : ∀ x ∈ parts.toList.map (·.2), (a.eval x).cells.size = sz := by
    intro x hx
    obtain ⟨p, hp, rfl⟩ := List.mem_map.1 hx
    have h1 := (hval p hp).length
    rw [hfl p hp] at h1
    simpa using h1
  obtain ⟨z, hz⟩ : ∃ z, i.zero = some z := by rw [hi] at hzero; exact Option.isSome_iff_exists.1 hzero
  have key : ∀ zero : Array Value, ∃ cells : Array Value, Instr.fill (fun i => some (i * sz, sz)) ((Array.range (len * sz)).map (zero[· % zero.size]!)) (parts.map fun x => (x.1, a.eval x.2)).toList = some cells ∧
      cells.size = len * sz ∧ cells.toList = ((parts.toList.map (·.2)).map fun x => (a.eval x).cells.toList).flatten := by
    intro zero
    have hpl : (parts.map fun x => (x.1, a.eval x.2)).toList = (parts.toList.map (·.2)).zipIdx.map fun x => (x.2, a.eval x.1) := by
      rw [Array.toList_map]
      conv => lhs; rw [hparts]
      rw [List.map_map]
      rfl
    have hpn : (parts.toList.map (·.2)).length = len := by simpa using hn
    obtain ⟨r, q1, q2⟩ := fill_slice (a := a) (sz := sz) (parts.toList.map (·.2)) 0 ((Array.range (len * sz)).map (zero[· % zero.size]!)) hcs (by rw [hpn]; simp)
    have hq : r.toList = ((parts.toList.map (·.2)).map fun x => (a.eval x).cells.toList).flatten := by
      rw [q2, hpn]
      simp
    refine ⟨r, by rw [hpl]; exact q1, ?_, hq⟩
    have hl : ∀ (l : List Operand), (∀ x ∈ l, (a.eval x).cells.size = sz) → ((l.map fun x => (a.eval x).cells.toList).flatten).length = l.length * sz := by
      intro l
      induction l with
      | nil => intro _; simp
      | cons x l ih =>
        intro h
        rw [List.map_cons, List.flatten_cons, List.length_append, ih (fun y hy => h y (by simp [hy])), List.length_cons, Nat.add_mul, Nat.one_mul, Nat.add_comm]
        congr 1
        simpa using h x (by simp)
    have := hl _ hcs
    rw [hpn, ← hq] at this
    simpa using this
  have hlim : ¬ (len * sz > 2 ^ 24) := by omega
  have hrel : ∀ (cells : Array Value), cells.toList = ((parts.toList.map (·.2)).map fun x => (a.eval x).cells.toList).flatten → ∀ E' : Env, Le E E' → Rels1 E' (parts.toList.map fun p => flat (ev G F p.2).2).flatten cells.toList := by
    intro cells hc E' L
    rw [hc, List.map_map]
    refine Rels1.mono L _ _ (rels1_flatten _ _ (by simp) fun k x y hx hy => ?_)
    rw [List.getElem?_map] at hx hy
    cases hk : parts.toList[k]? with
    | none => rw [hk] at hx; cases hx
    | some p =>
      rw [hk] at hx hy
      simp only [Option.map_some, Option.some.injEq, Function.comp] at hx hy
      subst hx; subst hy
      exact hval p (List.mem_of_getElem? hk)
  by_cases h0 : len * sz = 0
  · obtain ⟨cells, q1, q2, q3⟩ := key #[]
    refine ⟨cells, ?_, q2, hrel cells q3⟩
    show (do pure (Next.value (← Instr.buildSlice t len (parts.map fun (i, x) => (i, a.eval x)))) : Sem Next).run P E.w = _
    have hb : (Instr.buildSlice t len (parts.map fun (i, x) => (i, a.eval x))).run P E.w = .ok (.slice (some ⟨E.w.heap.size, 0, none⟩) len len) (E.w.alloc (.cells cells e)) := by
      unfold Instr.buildSlice
      rw [Sem.run_bind, run_underlying ht, Result.andThen_ok]
      simp only [Sem.run_bind]
      rw [show (sizeOf e).run P E.w = .ok sz E.w from by simp [sizeOf, typeInfo, hi, his], Result.andThen_ok]
      rw [if_neg hlim]
      simp only [h0, if_true, Sem.run_bind, Sem.run_pure, Result.andThen_ok]
      rw [h0] at q1
      rw [q1]
      simp [newRow]
    rw [Sem.run_bind, hb]
    rfl
  · obtain ⟨cells, q1, q2, q3⟩ := key z.cells
    refine ⟨cells, ?_, q2, hrel cells q3⟩
    show (do pure (Next.value (← Instr.buildSlice t len (parts.map fun (i, x) => (i, a.eval x)))) : Sem Next).run P E.w = _
    have hb : (Instr.buildSlice t len (parts.map fun (i, x) => (i, a.eval x))).run P E.w = .ok (.slice (some ⟨E.w.heap.size, 0, none⟩) len len) (E.w.alloc (.cells cells e)) := by
      unfold Instr.buildSlice
      rw [Sem.run_bind, run_underlying ht, Result.andThen_ok]
      simp only [Sem.run_bind]
      rw [show (sizeOf e).run P E.w = .ok sz E.w from by simp [sizeOf, typeInfo, hi, his], Result.andThen_ok]
      simp only [hlim, if_false, h0, Sem.run_bind, Sem.run_pure, Result.andThen_ok, zeroValue, typeInfo, run_program, hi, hz]
      rw [q1]
      simp [newRow]
    rw [Sem.run_bind, hb]
    rfl

theorem flat_map_len {l : List (Nat × Operand)} {sz : Nat} (h : (l.all fun p => Nat.beq (flat (ev G F p.2).2).length sz) = true) : ∀ p ∈ l, (flat (ev G F p.2).2).length = sz :=
  fun p hp => Nat.eq_of_beq_eq_true (List.all_eq_true.1 h p hp)

theorem op_buildSlice (hI : ∀ w w', I w → Below B0 w w' → I w') (H : Good G I B0 E) (hf : FrsOk E F a) (t e : TypeId) (len sz : Nat) (parts : Array (Nat × Operand))
    (ht : P.underlying t = some (.slice e)) (hsz : P.cellsOf e = sz) (hpos : 0 < sz) (hzero : ((P.info? e).bind (·.zero)).isSome = true) (hle : len * sz ≤ 16777216) (hn : parts.size = len) (hidx : (parts.toList.zipIdx.all fun p => Nat.beq p.1.1 p.2) = true)
    (hfl : ∀ p ∈ parts.toList, (flat (ev G F p.2).2).length = sz) (hall : (parts.toList.all fun p => (ev G F p.2).1 && flatOk (ev G F p.2).2) = true) :
    OpOk P G I B0 E a ⟨d, .buildSlice t len parts, ty, pos, after, gd⟩ true (.sl sz (parts.toList.map fun p => flat (ev G F p.2).2) (some E.h.length)) (E.h ++ [.grow len sz e]) := by
  obtain ⟨cells, hr, hcs, hrel⟩ := slice_literal (d := d) (ty := ty) (pos := pos) (after := after) (gd := gd) H hf t e len sz parts ht hsz hpos hzero hle hn hidx hfl hall
  have S := step_grow hI H (w' := E.w.alloc (.cells cells e)) (n := len) (sz := sz) (e := e) (o := some E.w.heap.size) ((Below.refl _ _).alloc (Nat.le_refl _) _) (fun g hg => by injection hg with hg; subst hg; simp)
  have hown : (E.w.alloc (.cells cells e)).ownsRow E.B e sz (.slice (some ⟨E.w.heap.size, 0, none⟩) len len) len cells.toList :=
    ⟨by simpa using hcs, .inr ⟨E.w.heap.size, len, cells, rfl, H.size, heap_alloc_new _ _, Nat.le_refl _, by unfold maxLen; have : len ≤ len * sz := Nat.le_mul_of_pos_right _ hpos; omega, hcs, List.take_of_length_le (by rw [Array.length_toList, hcs]; exact Nat.le_refl _)⟩⟩
  refine ⟨_, _, .inl hr, S, rfl, fun _ => rows_of_own (n := len) (e := e) (xs := cells.toList) (fun r hr => ?_) (by simpa using hn) (by simp) (by show _ = upd E.σ E.h.length _ E.h.length; rw [upd_same]; rfl) hown (hrel _ S.le) H.U
    (fun j y g hj hy hs hs' => S.good.inj j E.h.length y (.grow len sz e) g hj (by simp) hy (by simp) hs hs'), fun h => by cases h⟩
  obtain ⟨p, hp, rfl⟩ := List.mem_map.1 hr
  exact hfl p hp

theorem op_buildSlice_dr (hI : ∀ w w', I w → Below B0 w w' → I w') (H : Good G I B0 E) (hf : FrsOk E F a) (t e : TypeId) (len sz : Nat) (parts : Array (Nat × Operand))
    (ht : P.underlying t = some (.slice e)) (hsz : P.cellsOf e = sz) (hpos : 0 < sz) (hzero : ((P.info? e).bind (·.zero)).isSome = true) (hle : len * sz ≤ 16777216) (hn : parts.size = len) (hidx : (parts.toList.zipIdx.all fun p => Nat.beq p.1.1 p.2) = true)
    (hfl : ∀ p ∈ parts.toList, (flat (ev G F p.2).2).length = sz) (hall : (parts.toList.all fun p => (ev G F p.2).1 && flatOk (ev G F p.2).2) = true) :
    OpOk P G I B0 E a ⟨d, .buildSlice t len parts, ty, pos, after, gd⟩ true (.sl sz (parts.toList.map fun p => flat (ev G F p.2).2) none) E.h := by
  obtain ⟨cells, hr, hcs, hrel⟩ := slice_literal (d := d) (ty := ty) (pos := pos) (after := after) (gd := gd) H hf t e len sz parts ht hsz hpos hzero hle hn hidx hfl hall
  have hB : Below E.w.heap.size E.w (E.w.alloc (.cells cells e)) := (Below.refl _ _).alloc (Nat.le_refl _) _
  -- the world has grown, nothing else
  have S : Step G I B0 E { E with w := E.w.alloc (.cells cells e) } := by
    have S1 := step_grow hI H (w' := E.w.alloc (.cells cells e)) (n := len) (sz := sz) (e := e) (o := none) hB (fun g hg => by cases hg)
    have L : Le E { E with w := E.w.alloc (.cells cells e) } := by
      refine ⟨rfl, fun ad v h s => ⟨(hB.cell (World.block_lt_of_cell? _ _ h)).trans h, s⟩, Nat.le_refl _, fun _ _ cs h => ⟨cs, h, rfl, rfl⟩, fun _ n _ _ _ h => ⟨n, h, Nat.le_refl _, fun _ => ⟨rfl, fun v xs h _ => h.alloc _⟩⟩, fun _ _ p h => ⟨p, h, rfl⟩⟩
    refine ⟨L, ⟨fun id y hy => ?_, H.inj, fun g cs hg => At.mono L _ _ (H.glob g cs hg), H.U, ?_, H.B0, hI _ _ H.I (hB.mono (Nat.le_trans H.B0 H.size))⟩, rfl, hB.mono H.size⟩
    · have h := H.blk id y hy
      cases y with
      | mem t' ds =>
        obtain ⟨g, dd, fr', h1, h2, h3, h4, h5, h6⟩ := h
        have hg := (Array.getElem?_eq_some_iff.1 h3).1
        refine ⟨g, dd, fr', h1, h2, (hB.block g hg).trans h3, h4, fun j hj => (hB.frozen (p := ⟨g, j, none⟩) hg).trans (h5 j hj), fun j z hz => ?_⟩
        obtain ⟨v, k1, k2, k3⟩ := h6 j z hz
        exact ⟨v, k1, k2, Rel.mono L _ _ k3⟩
      | grow n sz e => exact fun g hg => ⟨(h g hg).1, Nat.lt_of_lt_of_le (h g hg).2 hB.size⟩
      | dead => trivial
      | iter s p =>
        obtain ⟨g, h1, h2, h3⟩ := h
        exact ⟨g, h1, h2, (hB.block g (Array.getElem?_eq_some_iff.1 h3).1).trans h3⟩
    · have := H.size
      have := hB.size
      show E.B ≤ (E.w.alloc (.cells cells e)).heap.size
      omega
  have hrel' := hrel _ S.le
  refine ⟨.slice (some ⟨E.w.heap.size, 0, none⟩) len len, _, .inl hr, S, rfl, fun _ => ⟨⟨_, _, by rw [show (parts.toList.map fun p => flat (ev G F p.2).2).length = len from by simpa using hn], by simp [hn], ?_, ?_, fun _ => ⟨_, rfl, ?_⟩⟩, trivial⟩, fun h => by cases h⟩
  · have : len ≤ len * sz := Nat.le_mul_of_pos_right _ hpos
    unfold maxLen
    omega
  · intro r hr
    obtain ⟨p, hp, rfl⟩ := List.mem_map.1 hr
    exact hfl p hp
  · rw [Rows.iff, At.iff]
    intro j x hj
    obtain ⟨u, q1, q2, q3⟩ := rels1_get hrel' hj
    refine ⟨u, ?_, q2, ⟨fun hb => ?_, fun j' y hy hs => ?_⟩, q3⟩
    · rw [Addr.add_lit, Nat.zero_add]
      show (E.w.alloc (.cells cells e)).cell? ⟨E.w.heap.size, j, none⟩ = some u
      rw [World.cell?_alloc_new]
      simpa using q1
    · have h1 := H.U _ _ hb
      have h2 := H.size
      simp only at h1
      omega
    · cases y with
      | dead => exact .inl rfl
      | mem _ cs =>
        have h1 := (H.lt hy (by simp) hs).2
        simp only at h1
        omega
      | grow n' sz' e' =>
        have h1 := (H.lt hy (by simp) hs).2
        simp only at h1
        omega
      | iter _ _ =>
        have h1 := (H.lt hy (by simp) hs).2
        simp only at h1
        omega

end
end Go.Ai
