/-
  Drawn regions: whatever order is drawn.
-/
import Derived.Test.YtnncfdlpogjlkaaDoorAiDraw
namespace Go.Ai
set_option linter.unusedVariables false
set_option linter.unusedSimpArgs false
set_option linter.unnecessarySimpa false
open Go.RowKit

theorem forceN_eq {α : Type} (n : Nat) (k : Nat → α) : forceN n k = k n := by cases n <;> rfl

theorem bitsOf_bit {look : Nat → Nat} {o : Oper} {i : Nat} (h : (bitsOf look o).testBit i = true) : ∃ e ∈ o.after, Region.binds .any e = true ∧ (i = e.on ∨ (look e.on).testBit i = true) := by
  have key : ∀ l : List Edge, (l.foldr (fun e s => bif Region.binds .any e then Nat.lor (Nat.lor (2 ^ e.on) (look e.on)) s else s) 0).testBit i = true → ∃ e ∈ l, Region.binds .any e = true ∧ (i = e.on ∨ (look e.on).testBit i = true) := by
    intro l
    induction l with
    | nil => intro h; simp at h
    | cons e l ih =>
      intro h
      rw [List.foldr_cons] at h
      cases hb : Region.binds .any e with
      | false =>
        rw [hb] at h
        obtain ⟨e', h1, h2⟩ := ih h
        exact ⟨e', by simp [h1], h2⟩
      | true =>
        rw [hb] at h
        simp only [cond_true] at h
        have h' : ((2 ^ e.on ||| look e.on) ||| (l.foldr (fun e s => bif Region.binds .any e then Nat.lor (Nat.lor (2 ^ e.on) (look e.on)) s else s) 0)).testBit i = true := h
        rw [Nat.testBit_or, Nat.testBit_or, Bool.or_eq_true, Bool.or_eq_true] at h'
        rcases h' with (h1 | h1) | h1
        · rw [Nat.testBit_two_pow] at h1
          exact ⟨e, by simp, hb, .inl (of_decide_eq_true h1).symm⟩
        · exact ⟨e, by simp, hb, .inr h1⟩
        · obtain ⟨e', k1, k2⟩ := ih h1
          exact ⟨e', by simp [k1], k2⟩
  obtain ⟨e, h1, h2⟩ := key o.after.toList h
  exact ⟨e, by simpa using h1, h2⟩

theorem befs_spec : ∀ (l : List Oper) (acc : List Nat), ∃ t, befs l acc = acc ++ t ∧ ∀ (j : Nat) o, l[j]? = some o → (befs l acc).getD (acc.length + j) 0 = bitsOf (fun i => if i < acc.length + j then (befs l acc).getD i 0 else 0) o
  | [], acc => ⟨[], by simp [befs], fun j o h => by simp at h⟩
  | o :: os, acc => by
    have hb : befs (o :: os) acc = befs os (acc ++ [bitsOf (fun i => acc.getD i 0) o]) := by
      rw [befs, forceN_eq]
    obtain ⟨t, ht, hs⟩ := befs_spec os (acc ++ [bitsOf (fun i => acc.getD i 0) o])
    rw [hb]
    refine ⟨_ :: t, by rw [ht, List.append_assoc]; rfl, fun j o' hj => ?_⟩
    cases j with
    | zero =>
      simp only [List.getElem?_cons_zero, Option.some.injEq] at hj
      subst hj
      have hlook : (fun i => if i < acc.length + 0 then (befs os (acc ++ [bitsOf (fun i => acc.getD i 0) o])).getD i 0 else 0) = fun i => acc.getD i 0 := by
        funext i
        rw [ht]
        by_cases hi : i < acc.length
        · simp [hi, List.getElem?_append_left, List.append_assoc]
        · simp [hi, List.getElem?_eq_none (Nat.le_of_not_lt hi)]
      rw [hlook, ht]
      simp [List.append_assoc]
    | succ j =>
      have := hs j o' (by simpa using hj)
      simp only [List.length_append, List.length_cons, List.length_nil, Nat.zero_add] at this
      rw [show acc.length + (j + 1) = acc.length + 1 + j by omega]
      exact this

section
variable {ops : Array Oper}

def Closed (ops : Array Oper) (listed : Array Bool) : Prop :=
  ∀ (j : Nat) o, ops[j]? = some o → listed.getD j false = true → ∀ e ∈ o.after, Region.binds .any e = true → listed.getD e.on false = true

theorem closed_bit {listed : Array Bool} (hc : Closed ops listed) : ∀ (j : Nat) o, ops[j]? = some o → (∀ e ∈ o.after, Region.binds .any e = true → listed.getD e.on false = true) →
    ∀ i, ((befs ops.toList []).getD j 0).testBit i = true → listed.getD i false = true := by
  intro j
  induction j using Nat.strongRecOn with
  | _ j ih =>
    intro o ho hp i hi
    obtain ⟨t, _, hs⟩ := befs_spec ops.toList []
    have := hs j o (by simpa using ho)
    simp only [List.length_nil, Nat.zero_add] at this
    rw [this] at hi
    obtain ⟨e, he, hb, hie⟩ := bitsOf_bit hi
    have hl := hp e he hb
    rcases hie with rfl | hie
    · exact hl
    · by_cases hlt : e.on < j
      · rw [if_pos hlt] at hie
        have hjs := (Array.getElem?_eq_some_iff.1 ho).1
        have ho' : ops[e.on]? = some (ops[e.on]'(by omega)) := Array.getElem?_eq_getElem _
        exact ih e.on hlt _ ho' (hc _ _ ho' hl) i hie
      · rw [if_neg hlt] at hie
        simp at hie

theorem drawOk_edges {P : Program} (h : drawOk P ops = true) {j : Nat} {o : Oper} (ho : ops[j]? = some o) : ∀ e ∈ o.after, Region.binds .any e = true → e.on < j := by
  intro e he hb
  unfold drawOk at h
  simp only [Bool.and_eq_true] at h
  have := List.all_eq_true.1 h.1 (o, j) (by rw [List.mem_zipIdx_iff_getElem?]; simpa using ho)
  simp only [Bool.and_eq_true, List.all_eq_true] at this
  have := this.2 e (by simpa using he)
  rw [hb] at this
  simp only [Bool.not_true, Bool.false_or] at this
  exact Nat.le_of_ble_eq_true this

theorem drawOk_pair {P : Program} (h : drawOk P ops = true) {i j : Nat} {x y : Oper} (hx : ops[i]? = some x) (hy : ops[j]? = some y) (hij : i < j) :
    ((befs ops.toList []).getD j 0).testBit i = true ∨ (x.apart ops y = true ∧ (calm P x.op y.op || lsP ops.toList x y || lsP ops.toList y x) = true) := by
  unfold drawOk at h
  simp only [Bool.and_eq_true] at h
  have h1 := List.all_eq_true.1 h.2 (y, j) (by rw [List.mem_zipIdx_iff_getElem?]; simpa using hy)
  have h2 := List.all_eq_true.1 h1 (x, i) (by rw [List.mem_zipIdx_iff_getElem?]; simpa using hx)
  have hb : Nat.blt i j = true := Nat.ble_eq_true_of_le hij
  simpa [hb] using h2

def rest (ops : Array Oper) (listed : Array Bool) : List Nat := (List.range ops.size).filter fun i => !listed.getD i true

theorem mem_rest {listed : Array Bool} {i : Nat} : i ∈ rest ops listed ↔ i < ops.size ∧ listed.getD i true = false := by
  simp [rest]

theorem rest_sorted (listed : Array Bool) : (rest ops listed).Pairwise (· < ·) := List.Pairwise.filter _ List.pairwise_lt_range

theorem rest_set {listed : Array Bool} {i : Nat} (hs : listed.size = ops.size) {s t : List Nat} (h : rest ops listed = s ++ i :: t) : rest ops (listed.setIfInBounds i true) = s ++ t := by
  have hsort := rest_sorted (ops := ops) listed
  rw [h] at hsort
  have e1 : rest ops (listed.setIfInBounds i true) = (rest ops listed).filter fun j => j != i := by
    unfold rest
    rw [List.filter_filter]
    refine List.filter_congr fun j hj => ?_
    have hj' : j < listed.size := by rw [hs]; simpa using hj
    by_cases hji : j = i
    · subst hji
      simp [hj']
    · simp [hji, Ne.symm hji, hj']
  rw [e1, h, List.filter_append, List.filter_cons]
  simp only [bne_self_eq_false, Bool.false_eq_true, if_false]
  rw [List.pairwise_append, List.pairwise_cons] at hsort
  have es : s.filter (fun j => j != i) = s := List.filter_eq_self.2 fun j hj => by
    have := hsort.2.2 j hj i (by simp)
    simp; omega
  have et : t.filter (fun j => j != i) = t := List.filter_eq_self.2 fun j hj => by
    have := hsort.2.1.1 j hj
    simp; omega
  rw [es, et]

theorem FrsOk.eq {E : Env} {F F' : Fr} {a : Act} (he : FrEq F F') (h : FrsOk E F a) : FrsOk E F' a := ⟨fun s => by rw [← he s]; exact h.1 s, by rw [← he dS]; exact h.2⟩

theorem sel_range (ops : Array Oper) : ∀ n, n ≤ ops.size → sel ops (List.range n) = ops.toList.take n
  | 0, _ => rfl
  | n + 1, h => by
    have hn : ops[n]? = some (ops[n]'h) := Array.getElem?_eq_getElem _
    have hl : ops.toList[n]? = some (ops[n]'h) := by simpa using hn
    have ih := sel_range ops n (by omega)
    unfold sel at ih ⊢
    rw [List.range_succ, List.filterMap_append, ih, List.take_add_one, hl]
    simp [hn]

variable {C : Cfg} {I : World → Prop} {B0 : Nat}

theorem any_ok (hI : ∀ w w', I w → Below B0 w w' → I w') {cl : FuncId → List AV → Hp → Except (List Nat) (AV × Hp)} (hcl : ClOk C I B0 cl) (hbl : Blind cl) (hd : drawOk C.P ops = true)
    {n : Nat} (hds : (ops.toList.all fun o => dstOk n o.dst) = true) {Q : Exit → Act → World → Prop} :
    ∀ (fuel : Nat) (listed : Array Bool) (F : Fr) (G : Fr) (h' : Hp) (E : Env) (a : Act), listed.size = ops.size → Closed ops listed → (rest ops listed).length = fuel →
      LsF ops.toList F → execOps C cl ops true (sel ops (rest ops listed)) F E.h = .ok (G, h') → Good C.G I B0 E → FrsOk E F a → n ≤ a.tmps.size →
      (∀ E' a', Step C.G I B0 E E' → E'.h = h' → FrsOk E' G a' → a'.tmps.size = a.tmps.size → a'.defers = a.defers → Q .normal a' E'.w) → wpAny C.P .any ops Q fuel listed a E.w := by
  have hdst : ∀ {i : Nat} {o : Oper}, ops[i]? = some o → dstOk n o.dst = true := fun ho => List.all_eq_true.1 hds _ (by simpa using Array.mem_of_getElem? ho)
  have hsub : ∀ {listed : Array Bool} {i : Nat}, i ∈ Region.ready .any ops listed → i ∈ rest ops listed := fun hi => by
    rw [mem_ready] at hi
    obtain ⟨h1, o, h2, _⟩ := hi
    exact mem_rest.2 ⟨(Array.getElem?_eq_some_iff.1 h2).1, h1⟩
  intro fuel
  induction fuel with
  | zero =>
    intro listed F G h' E a hs hc hl hLs hx H hf hn hQ
    have hr : rest ops listed = [] := List.eq_nil_of_length_eq_zero hl
    rw [hr] at hx
    simp only [sel, List.filterMap_nil, execOps, Except.ok.injEq, Prod.mk.injEq] at hx
    obtain ⟨rfl, rfl⟩ := hx
    refine ⟨?_, hQ E a (Step.refl H) rfl hf rfl rfl⟩
    cases hrd : Region.ready .any ops listed with
    | nil => rfl
    | cons i l =>
      have : i ∈ rest ops listed := hsub (by rw [hrd]; simp)
      rw [hr] at this
      cases this
  | succ fuel ih =>
    intro listed F G h' E a hs hc hl hLs hx H hf hn hQ
    refine ⟨fun hrd => ?_, fun i hi => ?_⟩
    · -- the first that is left is ready
      exfalso
      cases hr : rest ops listed with
      | nil => rw [hr] at hl; cases hl
      | cons i t =>
        have hi : i ∈ rest ops listed := by rw [hr]; simp
        obtain ⟨hi1, hi2⟩ := mem_rest.1 hi
        have ho : ops[i]? = some (ops[i]'hi1) := Array.getElem?_eq_getElem _
        have : i ∈ Region.ready .any ops listed := mem_ready.2 ⟨hi2, _, ho, fun e he hb => by
          have hlt := drawOk_edges hd ho e he hb
          cases hle : listed.getD e.on true with
          | true =>
            have : e.on < listed.size := by omega
            simpa [Array.getD, this] using hle
          | false =>
            have hm : e.on ∈ rest ops listed := mem_rest.2 ⟨by omega, hle⟩
            have hsort := rest_sorted (ops := ops) listed
            rw [hr] at hm hsort
            rcases List.mem_cons.1 hm with rfl | hm
            · omega
            · have := (List.pairwise_cons.1 hsort).1 _ hm
              omega⟩
        rw [hrd] at this
        cases this
    · have him := hsub hi
      obtain ⟨hi2, o, ho, hpred⟩ := mem_ready.1 hi
      obtain ⟨s, t, hst⟩ := List.append_of_mem him
      have hsort := rest_sorted (ops := ops) listed
      rw [hst, List.pairwise_append] at hsort
      have hsel : sel ops (rest ops listed) = sel ops s ++ o :: sel ops t := by
        rw [hst]
        simp only [sel, List.filterMap_append, List.filterMap_cons, ho]
      have hom : o ∈ ops.toList := by simpa using Array.mem_of_getElem? ho
      have hapart : ∀ x ∈ sel ops s, x ∈ ops.toList ∧ x.apart ops o = true ∧ (calm C.P x.op o.op || lsP ops.toList x o || lsP ops.toList o x) = true := by
        intro x hxm
        obtain ⟨k, hk, hkx⟩ := List.mem_filterMap.1 hxm
        refine ⟨by simpa using Array.mem_of_getElem? hkx, ?_⟩
        have hki : k < i := hsort.2.2 k hk i (by simp)
        rcases drawOk_pair hd hkx ho hki with hb | hap
        · have hlk := closed_bit hc i o ho hpred k hb
          have hk2 := (mem_rest.1 (by rw [hst]; simp [hk] : k ∈ rest ops listed))
          have : k < listed.size := by omega
          simp [Array.getD, this] at hlk hk2
          rw [hlk] at hk2
          exact absurd hk2.2 (by simp)
        · exact hap
      rw [hsel] at hx
      obtain ⟨G1, hx1, he1⟩ := pull hbl hom (sel ops s) hLs hapart hx
      simp only [execOps, dstW] at hx1
      cases hso : stepOp C cl ops true o F E.h with
      | error e => rw [hso] at hx1; cases hx1
      | ok r =>
        obtain ⟨e, h1⟩ := r
        rw [hso] at hx1
        simp only at hx1
        refine stepOp_ok hI hcl ho (hdst ho) hso H hf hn fun E' a' S hE' hf' hsz hdf => ?_
        subst hE'
        have hrs := rest_set hs hst
        have hx2 : execOps C cl ops true (sel ops (rest ops (listed.setIfInBounds i true))) (putF F o.dst e) E'.h = .ok (G1, h') := by
          rw [hrs]
          simp only [sel, List.filterMap_append] at hx1 ⊢
          exact hx1
        have hc' : Closed ops (listed.setIfInBounds i true) := by
          intro j oj hj hlj e' he' hb'
          by_cases hji : i = j
          · subst hji
            rw [ho] at hj
            injection hj with hj
            subst hj
            exact getD_set_true (hpred e' he' hb')
          · rw [getD_set_ne false hji] at hlj
            exact getD_set_true (hc j oj hj hlj e' he' hb')
        refine ih _ _ G1 h' E' a' (by simpa using hs) hc' ?_ (hLs.put hom e) hx2 S.good hf' (by rw [hsz]; exact hn) fun E'' a'' S' hE'' hf'' hsz' hdf' =>
          hQ E'' a'' (S.trans S') hE'' (hf''.eq fun n => (he1 n).symm) (hsz'.trans hsz) (hdf'.trans (hdf.resolve_left fun h => by cases h.1))
        rw [hrs]
        rw [hst] at hl
        simp at hl ⊢
        omega

theorem region_any_ok (hI : ∀ w w', I w → Below B0 w w' → I w') (hm : C.P.follows .mixedOrders = true) {cl : FuncId → List AV → Hp → Except (List Nat) (AV × Hp)} (hcl : ClOk C I B0 cl) (hbl : Blind cl) (hd : drawOk C.P ops = true)
    {n : Nat} (hds : (ops.toList.all fun o => dstOk n o.dst) = true) {Q : Exit → Act → World → Prop} {id : Nat} {F G : Fr} {h' : Hp} {E : Env} {a : Act}
    (hLs : LsF ops.toList F) (hx : execOps C cl ops true ops.toList F E.h = .ok (G, h')) (H : Good C.G I B0 E) (hf : FrsOk E F a) (hn : n ≤ a.tmps.size)
    (hQ : ∀ E' a', Step C.G I B0 E E' → E'.h = h' → FrsOk E' G a' → a'.tmps.size = a.tmps.size → a'.defers = a.defers → Q .normal a' E'.w) : (Code.region id ops true).wp C.P Q a E.w := by
  refine wp_region_any hm ?_
  have hb : ∀ B, Below B E.w { E.w with drawn := E.w.drawn + 1 } := fun B => ⟨rfl, rfl, rfl, Nat.le_refl _, fun _ _ => rfl⟩
  have S := step_same hI H (w' := { E.w with drawn := E.w.drawn + 1 }) (hb _) rfl
  have hl : ∀ i, (Array.replicate ops.size false).getD i false = false := fun i => by
    by_cases hi : i < ops.size <;> simp [Array.getD, hi]
  have hrest : rest ops (Array.replicate ops.size false) = List.range ops.size := by
    unfold rest
    exact List.filter_eq_self.2 fun i hi => by
      have : i < ops.size := by simpa using hi
      simp [Array.getD, this]
  have hselall : sel ops (List.range ops.size) = ops.toList := by
    have := sel_range ops ops.size (Nat.le_refl _)
    rwa [List.take_of_length_le (by simp)] at this
  exact any_ok hI hcl hbl hd hds ops.size _ F G h' { E with w := { E.w with drawn := E.w.drawn + 1 } } a (by simp) (fun j o _ hlj => by rw [hl] at hlj; cases hlj) (by rw [hrest]; simp) hLs
    (by rw [hrest, hselall]; exact hx) S.good (FrsOk.mono S.le hf) hn fun E' a' S' => hQ E' a' (S.trans S')

end
end Go.Ai
