/-
  Drawn regions: whatever order is drawn.
-/
import Derived.Test.YtnncfdlpogjlkaaDoorQAiDraw
namespace Go.Ai
set_option linter.unusedVariables false
set_option linter.unusedSimpArgs false
set_option linter.unnecessarySimpa false
open Go.RowKit

theorem forceN_eq {α : Type} (n : Nat) (k : Nat → α) : forceN n k = k n := by cases n <;> rfl

theorem bitsOf_bit {look : Nat → Nat} {o : Oper} {i : Nat} (h : (bitsOf look o).testBit i = true) : ∃ e ∈ o.after, Region.binds .any e = true ∧ (i = e.on ∨ (look e.on).testBit i = true) := by
  have key : ∀ l : List Edge, (l.foldr (fun e s => bif Region.binds .any e then Nat.lor (Nat.lor (2 ^ e.on) (look e.on)) s else s) 0).testBit i = true → ∃ e ∈ l, Region.binds .any e = true ∧ (i = e.on ∨ (look e.on).testBit i = true) := by
    intro l
    induction l with
    | nil => intro h; simp at h
    | cons e l ih =>
      intro h
      rw [List.foldr_cons] at h
      cases hb : Region.binds .any e with
      | false =>
        rw [hb] at h
        obtain ⟨e', h1, h2⟩ := ih h
        exact ⟨e', by simp [h1], h2⟩
      | true =>
        rw [hb] at h
        simp only [cond_true] at h
        have h' : ((2 ^ e.on ||| look e.on) ||| (l.foldr (fun e s => bif Region.binds .any e then Nat.lor (Nat.lor (2 ^ e.on) (look e.on)) s else s) 0)).testBit i = true := h
        rw [Nat.testBit_or, Nat.testBit_or, Bool.or_eq_true, Bool.or_eq_true] at h'
        rcases h' with (h1 | h1) | h1
        · rw [Nat.testBit_two_pow] at h1
          exact ⟨e, by simp, hb, .inl (of_decide_eq_true h1).symm⟩
        · exact ⟨e, by simp, hb, .inr h1⟩
        · obtain ⟨e', k1, k2⟩ := ih h1
          exact ⟨e', by simp [k1], k2⟩
  obtain ⟨e, h1, h2⟩ := key o.after.toList h
  exact ⟨e, by simpa using h1, h2⟩

theorem befs_spec : ∀ (l : List Oper) (acc : List Nat), ∃ t, befs l acc = acc ++ t ∧ ∀ (j : Nat) o, l[j]? = some o → (befs l acc).getD (acc.length + j) 0 = bitsOf (fun i => if i < acc.length + j then (befs l acc).getD i 0 else 0) o
  | [], acc => ⟨[], by simp [befs], fun j o h => by simp at h⟩
  | o :: os, acc => by
    have hb : befs (o :: os) acc = befs os (acc ++ [bitsOf (fun i => acc.getD i 0) o]) := by
      rw [befs, forceN_eq]
    obtain ⟨t, ht, hs⟩ := befs_spec os (acc ++ [bitsOf (fun i => acc.getD i 0) o])
    rw [hb]
    refine ⟨_ :: t, by rw [ht, List.append_assoc]; rfl, fun j o' hj => ?_⟩
    cases j with
    | zero =>
      simp only [List.getElem?_cons_zero, Option.some.injEq] at hj
      subst hj
      have hlook : (fun i => if i < acc.length + 0 then (befs os (acc ++ [bitsOf (fun i => acc.getD i 0) o])).getD i 0 else 0) = fun i => acc.getD i 0 := by
        funext i
        rw [ht]
        by_cases hi : i < acc.length
        · simp [hi, List.getElem?_append_left, List.append_assoc]
        · simp [hi, List.getElem?_eq_none (Nat.le_of_not_lt hi)]
      rw [hlook, ht]
      simp [List.append_assoc]
    | succ j =>
      have := hs j o' (by simpa using hj)
      simp only [List.length_append, List.length_cons, List.length_nil, Nat.zero_add] at this
      rw [show acc.length + (j + 1) = acc.length + 1 + j by omega]
      exact this

section
variable {ops : Array Oper}

def Closed (ops : Array Oper) (listed : Array Bool) : Prop :=
  ∀ (j : Nat) o, ops[j]? = some o → listed.getD j false = true → ∀ e ∈ o.after, Region.binds .any e = true → listed.getD e.on false = true

theorem closed_bit {listed : Array Bool} (hc : Closed ops listed) : ∀ (j : Nat) o, ops[j]? = some o → (∀ e ∈ o.after, Region.binds .any e = true → listed.getD e.on false = true) →
    ∀ i, ((befs ops.toList []).getD j 0).testBit i = true → listed.getD i false = true := by
  intro j
  induction j using Nat.strongRecOn with
  | _ j ih =>
    intro o ho hp i hi
    obtain ⟨t, _, hs⟩ := befs_spec ops.toList []
    have := hs j o (by simpa using ho)
    simp only [List.length_nil, Nat.zero_add] at this
    rw [this] at hi
    obtain ⟨e, he, hb, hie⟩ := bitsOf_bit hi
    have hl := hp e he hb
    rcases hie with rfl | hie
    · exact hl
    · by_cases hlt : e.on < j
      · rw [if_pos hlt] at hie
        have hjs := (Array.getElem?_eq_some_iff.1 ho).1
        have ho' : ops[e.on]? = some (ops[e.on]'(by omega)) := Array.getElem?_eq_getElem _
        exact ih e.on hlt _ ho' (hc _ _ ho' hl) i hie
      · rw [if_neg hlt] at hie
        simp at hie

theorem drawOk_edges {P : Program} (h : drawOk P ops = true) {j : Nat} {o : Oper} (ho : ops[j]? = some o) : ∀ e ∈ o.after, Region.binds .any e = true → e.on < j := by
  intro e he hb
  unfold drawOk at h
  simp only [Bool.and_eq_true] at h
  have := List.all_eq_true.1 h.1 (o, j) (by rw [List.mem_zipIdx_iff_getElem?]; simpa using ho)
  simp only [Bool.and_eq_true, List.all_eq_true] at this
  have := this.2 e (by simpa using he)
  rw [hb] at this
  simp only [Bool.not_true, Bool.false_or] at this
  exact Nat.le_of_ble_eq_true this

theorem drawOk_pair {P : Program} (h : drawOk P ops = true) {i j : Nat} {x y : Oper} (hx : ops[i]? = some x) (hy : ops[j]? = some y) (hij : i < j) :
    ((befs ops.toList []).getD j 0).testBit i = true ∨ (x.apart ops y = true ∧ (calm P x.op y.op || lsP ops.toList x y || lsP ops.toList y x) = true) := by
  unfold drawOk at h
  simp only [Bool.and_eq_true] at h
  have h1 := List.all_eq_true.1 h.2 (y, j) (by rw [List.mem_zipIdx_iff_getElem?]; simpa using hy)
  have h2 := List.all_eq_true.1 h1 (x, i) (by rw [List.mem_zipIdx_iff_getElem?]; simpa using hx)
  have hb : Nat.blt i j = true := Nat.ble_eq_true_of_le hij
  simpa [hb] using h2

def rest (ops : Array Oper) (listed : Array Bool) : List Nat := (List.range ops.size).filter fun i => !listed.getD i true

theorem mem_rest {listed : Array Bool} {i : Nat} : i ∈ rest ops listed ↔ i < ops.size ∧ listed.getD i true = false := by
  simp [rest]

theorem rest_sorted (listed : Array Bool) : (rest ops listed).Pairwise (· < ·) := List.Pairwise.filter _ List.pairwise_lt_range

theorem rest_set {listed : Array Bool} {i : Nat} (hs : listed.size = ops.size) {s t : List Nat} (h : rest ops listed = s ++ i :: t) : rest ops (listed.setIfInBounds i true) = s ++ t := by
  have hsort := rest_sorted (ops := ops) listed
  rw [h] at hsort
  have e1 : rest ops (listed.setIfInBounds i true) = (rest ops listed).filter fun j => j != i := by
    unfold rest
    rw [List.filter_filter]
    refine List.filter_congr fun j hj => ?_
    have hj' : j < listed.size := by rw [hs]; simpa using hj
    by_cases hji : j = i
    · subst hji
      simp [hj']
    · simp [hji, Ne.symm hji, hj']
  rw [e1, h, List.filter_append, List.filter_cons]
  simp only [bne_self_eq_false, Bool.false_eq_true, if_false]
  rw [List.pairwise_append, List.pairwise_cons] at hsort
  have es : s.filter (fun j => j != i) = s := List.filter_eq_self.2 fun j hj => by
    have := hsort.2.2 j hj i (by simp)
    simp; omega
  have et : t.filter (fun j => j != i) = t := List.filter_eq_self.2 fun j hj => by
    have := hsort.2.1.1 j hj
    simp; omega
  rw [es, et]

theorem FrsOk.eq {E : Env} {F F' : Fr} {a : Act} (he : FrEq F F') (h : FrsOk E F a) : FrsOk E F' a := ⟨fun s => by rw [← he s]; exact h.1 s, by rw [← he dS]; exact h.2⟩

theorem sel_range (ops : Array Oper) : ∀ n, n ≤ ops.size → sel ops (List.range n) = ops.toList.take n
  | 0, _ => rfl
  | n + 1, h => by
    have hn : ops[n]? = some (ops[n]'h) := Array.getElem?_eq_getElem _
    have hl : ops.toList[n]? = some (ops[n]'h) := by simpa using hn
    have ih := sel_range ops n (by omega)
    unfold sel at ih ⊢
    rw [List.range_succ, List.filterMap_append, ih, List.take_add_one, hl]
    simp [hn]

variable {C : Cfg} {I : World → Prop} {B0 : Nat}

theorem any_ok (hI : ∀ w w', I w → Below B0 w w' → I w') {cl : FuncId → List AV → Hp → Except (List Nat) (AV × Hp)} (hcl : ClOk C I B0 cl) (hbl : Blind cl) (hd : drawOk C.P ops = true)
    {n : Nat} (hds : (ops.toList.all fun o => dstOk n o.dst) = true) {Q : Exit → Act → World → Prop} :
    ∀ (fuel : Nat) (listed : Array Bool) (F : Fr) (G : Fr) (h' : Hp) (E : Env) (a : Act), listed.size = ops.size → Closed ops listed → (rest ops listed).length = fuel →
      LsF ops.toList F → execOps C cl ops true (sel ops (rest ops listed)) F E.h = .ok (G, h') → Good C.G I B0 E → FrsOk E F a → n ≤ a.tmps.size →
      (∀ E' a', Step C.G I B0 E E' → E'.h = h' → FrsOk E' G a' → a'.tmps.size = a.tmps.size → a'.defers = a.defers → Q .normal a' E'.w) → wpAny C.P .any ops Q fuel listed a E.w := by
  have hdst : ∀ {i : Nat} {o : Oper}, ops[i]? = some o → dstOk n o.dst = true := fun ho => List.all_eq_true.1 hds _ (by simpa using Array.mem_of_getElem? ho)
  have hsub : ∀ {listed : Array Bool} {i : Nat}, i ∈ Region.ready .any ops listed → i ∈ rest ops listed := fun hi => by
    rw [mem_ready] at hi
    obtain ⟨h1, o, h2, _⟩ := hi
    exact mem_rest.2 ⟨(Array.getElem?_eq_some_iff.1 h2).1, h1⟩
  intro fuel
  induction fuel with
  | zero =>
    intro listed F G h' E a hs hc hl hLs hx H hf hn hQ
    have hr : rest ops listed = [] := List.eq_nil_of_length_eq_zero hl
    rw [hr] at hx
    simp only [sel, List.filterMap_nil, execOps, Except.ok.injEq, Prod.mk.injEq] at hx
    obtain ⟨rfl, rfl⟩ := hx
    refine ⟨?_, hQ E a (Step.refl H) rfl hf rfl rfl⟩
    cases hrd : Region.ready .any ops listed with
    | nil => rfl
    | cons i l =>
      have : i ∈ rest ops listed := hsub (by rw [hrd]; simp)
      rw [hr] at this
      cases this
  | succ fuel ih =>
    intro listed F G h' E a hs hc hl hLs hx H hf hn hQ
    refine ⟨fun hrd => ?_, fun i hi => ?_⟩
    · -- the first that is left is ready
      exfalso
      cases hr : rest ops listed with
      | nil => rw [hr] at hl; cases hl
      | cons i t =>
        have hi : i ∈ rest ops listed := by rw [hr]; simp
        obtain ⟨hi1, hi2⟩ := mem_rest.1 hi
        have ho : ops[i]? = some (ops[i]'hi1) := Array.getElem?_eq_getElem _
        have : i ∈ Region.ready .any ops listed := mem_ready.2 ⟨hi2, _, ho, fun e he hb => by
          have hlt := drawOk_edges hd ho e he hb
          cases hle : listed.getD e.on true with
          | true =>
            have : e.on < listed.size := by omega
            simpa [Array.getD, this] using hle
          | false =>
            have hm : e.on ∈ rest ops listed := mem_rest.2 ⟨by omega, hle⟩
            have hsort := rest_sorted (ops := ops) listed
            rw [hr] at hm hsort
            rcases List.mem_cons.1 hm with rfl | hm
            · omega
            · have := (List.pairwise_cons.1 hsort).1 _ hm
              omega⟩
        rw [hrd] at this
        cases this
    · have him := hsub hi
      obtain ⟨hi2, o, ho, hpred⟩ := mem_ready.1 hi
      obtain ⟨s, t, hst⟩ := List.append_of_mem him
      have hsort := rest_sorted (ops := ops) listed
      rw [hst, List.pairwise_append] at hsort
      have hsel : sel ops (rest ops listed) = sel ops s ++ o :: sel ops t := by
        rw [hst]
        simp only [sel, List.filterMap_append, List.filterMap_cons, ho]
      have hom : o ∈ ops.toList := by simpa using Array.mem_of_getElem? ho
      have hapart : ∀ x ∈ sel ops s, x ∈ ops.toList ∧ x.apart ops o = true ∧ (calm C.P x.op o.op || lsP ops.toList x o || lsP ops.toList o x) = true := by
        intro x hxm
        obtain ⟨k, hk, hkx⟩ := List.mem_filterMap.1 hxm
        refine ⟨by simpa using Array.mem_of_getElem? hkx, ?_⟩
        have hki : k < i := hsort.2.2 k hk i (by simp)
        rcases drawOk_pair hd hkx ho hki with hb | hap
        · have hlk := closed_bit hc i o ho hpred k hb
          have hk2 := (mem_rest.1 (by rw [hst]; simp [hk] : k ∈ rest ops listed))
          have : k < listed.size := by omega
          simp [Array.getD, this] at hlk hk2
          rw [hlk] at hk2
          exact absurd hk2.2 (by simp)
        · exact hap
      rw [hsel] at hx
      obtain ⟨G1, hx1, he1⟩ := pull hbl hom (sel ops s) hLs hapart hx
      simp only [execOps, dstW] at hx1
      cases hso : stepOp C cl ops true o F E.h with
      | error e => rw [hso] at hx1; cases hx1
      | ok r =>
        obtain ⟨e, h1⟩ := r
        rw [hso] at hx1
        simp only at hx1
        refine stepOp_ok hI hcl ho (hdst ho) hso H hf hn fun E' a' S hE' hf' hsz hdf => ?_
        subst hE'
        have hrs := rest_set hs hst
        have hx2 : execOps C cl ops true (sel ops (rest ops (listed.setIfInBounds i true))) (putF F o.dst e) E'.h = .ok (G1, h') := by
          rw [hrs]
          simp only [sel, List.filterMap_append] at hx1 ⊢
          exact hx1
        have hc' : Closed ops (listed.setIfInBounds i true) := by
          intro j oj hj hlj e' he' hb'
          by_cases hji : i = j
          · subst hji
            rw [ho] at hj
            injection hj with hj
            subst hj
            exact getD_set_true (hpred e' he' hb')
          · rw [getD_set_ne false hji] at hlj
            exact getD_set_true (hc j oj hj hlj e' he' hb')
        refine ih _ _ G1 h' E' a' (by simpa using hs) hc' ?_ (hLs.put hom e) hx2 S.good hf' (by rw [hsz]; exact hn) fun E'' a'' S' hE'' hf'' hsz' hdf' =>
          hQ E'' a'' (S.trans S') hE'' (hf''.eq fun n => (he1 n).symm) (hsz'.trans hsz) (hdf'.trans (hdf.resolve_left fun h => by cases h.1))
        rw [hrs]
        rw [hst] at hl
        simp at hl ⊢
        omega

theorem region_any_ok (hI : ∀ w w', I w → Below B0 w w' → I w') (hm : C.P.follows .mixedOrders = true) {cl : FuncId → List AV → Hp → Except (List Nat) (AV × Hp)} (hcl : ClOk C I B0 cl) (hbl : Blind cl) (hd : drawOk C.P ops = true)
    {n : Nat} (hds : (ops.toList.all fun o => dstOk n o.dst) = true) {Q : Exit → Act → World → Prop} {id : Nat} {F G : Fr} {h' : Hp} {E : Env} {a : Act}
    (hLs : LsF ops.toList F) (hx : execOps C cl ops true ops.toList F E.h = .ok (G, h')) (H : Good C.G I B0 E) (hf : FrsOk E F a) (hn : n ≤ a.tmps.size)
    (hQ : ∀ E' a', Step C.G I B0 E E' → E'.h = h' → FrsOk E' G a' → a'.tmps.size = a.tmps.size → a'.defers = a.defers → Q .normal a' E'.w) : (Code.region id ops true).wp C.P Q a E.w := by
  refine wp_region_any hm ?_
  have hb : ∀ B, Below B E.w { E.w with drawn := E.w.drawn + 1 } := fun B => ⟨rfl, rfl, rfl, Nat.le_refl _, fun _ _ => rfl⟩
  have S := step_same hI H (w' := { E.w with drawn := E.w.drawn + 1 }) (hb _) rfl
  have hl : ∀ i, (Array.replicate ops.size false).getD i false = false := fun i => by
    by_cases hi : i < ops.size <;> simp [Array.getD, hi]
  have hrest : rest ops (Array.replicate ops.size false) = List.range ops.size := by
    unfold rest
    exact List.filter_eq_self.2 fun i hi => by
      have : i < ops.size := by simpa using hi
      simp [Array.getD, this]
  have hselall : sel ops (List.range ops.size) = ops.toList := by
    have := sel_range ops ops.size (Nat.le_refl _)
    rwa [List.take_of_length_le (by simp)] at this
  exact any_ok hI hcl hbl hd hds ops.size _ F G h' { E with w := { E.w with drawn := E.w.drawn + 1 } } a (by simp) (fun j o _ hlj => by rw [hl] at hlj; cases hlj) (by rw [hrest]; simp) hLs
    (by rw [hrest, hselall]; exact hx) S.good (FrsOk.mono S.le hf) hn fun E' a' S' => hQ E' a' (S.trans S')

/-! A last operation that all others are bound to stand before -/
theorem execReg_plain {C : Cfg} {cl : Bool → FuncId → List AV → Hp → Except (List Nat) (AV × Hp)} {draw : Bool} (ht : draw = false ∨ tailO C ops = false) : ∀ (os : List Oper) (i : Nat) (F : Fr) (h : Hp), execReg C cl ops draw i os F h = execOps C (cl draw) ops draw os F h
  | [], i, F, h => rfl
  | o :: os, i, F, h => by
    have hd : drawI C ops draw i = draw := by
      unfold drawI
      rcases ht with ht | ht
      · rw [ht]; rfl
      · rw [ht]; simp
    simp only [execReg, execOps, hd]
    cases stepOp C (cl draw) ops draw o F h with
    | error x => rfl
    | ok r => exact execReg_plain ht os (i + 1) _ _
theorem execReg_tail {C : Cfg} {cl : Bool → FuncId → List AV → Hp → Except (List Nat) (AV × Hp)} (ht : tailO C ops = true) {o : Oper} {G : Fr} {h2 : Hp} : ∀ (pre : List Oper) (i : Nat) (F : Fr) (h : Hp), i + pre.length + 1 = ops.size → execReg C cl ops true i (pre ++ [o]) F h = .ok (G, h2) →
    ∃ F1 h1 e, execOps C (cl true) ops true pre F h = .ok (F1, h1) ∧ stepOp C (cl false) ops false o F1 h1 = .ok (e, h2) ∧ G = putF F1 (dstW false o) e
  | [], i, F, h, hi, hx => by
    have hd : drawI C ops true i = false := by
      unfold drawI
      have : Nat.beq (i + 1) ops.size = true := by rw [show i + 1 = ops.size by simpa using hi]; exact Nat.beq_refl _
      rw [this, ht]; rfl
    simp only [List.nil_append, execReg, hd] at hx
    cases hs : stepOp C (cl false) ops false o F h with
    | error x => rw [hs] at hx; cases hx
    | ok r =>
      obtain ⟨e, h'⟩ := r
      rw [hs] at hx
      simp only [Except.ok.injEq, Prod.mk.injEq] at hx
      obtain ⟨rfl, rfl⟩ := hx
      exact ⟨F, h, e, rfl, hs, rfl⟩
  | p :: pre, i, F, h, hi, hx => by
    have hd : drawI C ops true i = true := by
      unfold drawI
      have : Nat.beq (i + 1) ops.size = false := by
        cases hb : Nat.beq (i + 1) ops.size with
        | false => rfl
        | true =>
          have := Nat.eq_of_beq_eq_true hb
          simp at hi; omega
      rw [this]; rfl
    simp only [List.cons_append, execReg, hd] at hx
    cases hs : stepOp C (cl true) ops true p F h with
    | error x => rw [hs] at hx; cases hx
    | ok r =>
      obtain ⟨e, h'⟩ := r
      rw [hs] at hx
      obtain ⟨F1, h1, e1, q1, q2, q3⟩ := execReg_tail ht pre (i + 1) _ _ (by simp at hi; omega) hx
      refine ⟨F1, h1, e1, ?_, q2, q3⟩
      simp only [execOps, hs]
      exact q1
theorem tail_spec {C : Cfg} (ht : tailO C ops = true) : ∃ m o, ops.size = m + 1 ∧ ops[m]? = some o ∧ isDef o = false ∧ ∀ i, i < m → ((befs ops.toList []).getD m 0).testBit i = true := by
  unfold tailO at ht
  cases ho : ops[ops.size - 1]? with
  | none => rw [ho] at ht; cases ht
  | some o =>
    rw [ho] at ht
    have hlt := (Array.getElem?_eq_some_iff.1 ho).1
    simp only at ht
    refine ⟨ops.size - 1, o, by omega, ho, ?_, ?_⟩
    · split at ht
      · rename_i hop _
        simp [isDef, hop]
      · cases ht
    · split at ht
      · rw [Bool.and_eq_true] at ht
        have := ht.2
        unfold lastB at this
        intro i hi
        exact List.all_eq_true.1 this i (by simpa using hi)
      · cases ht

def restN (ops : Array Oper) (listed : Array Bool) (m : Nat) : List Nat := (rest ops listed).filter fun j => j != m

theorem any_tail_ok (hI : ∀ w w', I w → Below B0 w w' → I w') {cl clF : FuncId → List AV → Hp → Except (List Nat) (AV × Hp)} (hcl : ClOk C I B0 cl) (hclF : ClOk C I B0 clF) (hbl : Blind cl) (hd : drawOk C.P ops = true)
    {n : Nat} (hds : (ops.toList.all fun o => dstOk n o.dst) = true) {Q : Exit → Act → World → Prop} {m : Nat} {om : Oper} (hm : ops.size = m + 1) (hom : ops[m]? = some om) (hdm : isDef om = false) (hbits : ∀ i, i < m → ((befs ops.toList []).getD m 0).testBit i = true) :
    ∀ (fuel : Nat) (listed : Array Bool) (F : Fr) (F1 : Fr) (h1 h2 : Hp) (e : Bool × AV) (E : Env) (a : Act), listed.size = ops.size → Closed ops listed → listed.getD m true = false → (rest ops listed).length = fuel →
      LsF ops.toList F → execOps C cl ops true (sel ops (restN ops listed m)) F E.h = .ok (F1, h1) → stepOp C clF ops false om F1 h1 = .ok (e, h2) → Good C.G I B0 E → FrsOk E F a → n ≤ a.tmps.size →
      (∀ E' a', Step C.G I B0 E E' → E'.h = h2 → FrsOk E' (putF F1 (dstW false om) e) a' → a'.tmps.size = a.tmps.size → a'.defers = a.defers → Q .normal a' E'.w) → wpAny C.P .any ops Q fuel listed a E.w := by
  have hdst : ∀ {i : Nat} {o : Oper}, ops[i]? = some o → dstOk n o.dst = true := fun ho => List.all_eq_true.1 hds _ (by simpa using Array.mem_of_getElem? ho)
  have hsub : ∀ {listed : Array Bool} {i : Nat}, i ∈ Region.ready .any ops listed → i ∈ rest ops listed := fun hi => by
    rw [mem_ready] at hi
    obtain ⟨h1, o, h2, _⟩ := hi
    exact mem_rest.2 ⟨(Array.getElem?_eq_some_iff.1 h2).1, h1⟩
  intro fuel
  induction fuel with
  | zero =>
    intro listed F F1 h1 h2 e E a hs hc hlm hl hLs hx hso H hf hn hQ
    have hr : rest ops listed = [] := List.eq_nil_of_length_eq_zero hl
    have : m ∈ rest ops listed := mem_rest.2 ⟨by omega, hlm⟩
    rw [hr] at this
    cases this
  | succ fuel ih =>
    intro listed F F1 h1 h2 e E a hs hc hlm hl hLs hx hso H hf hn hQ
    refine ⟨fun hrd => ?_, fun i hi => ?_⟩
    · exfalso
      cases hr : rest ops listed with
      | nil => rw [hr] at hl; cases hl
      | cons i t =>
        have hi : i ∈ rest ops listed := by rw [hr]; simp
        obtain ⟨hi1, hi2⟩ := mem_rest.1 hi
        have ho : ops[i]? = some (ops[i]'hi1) := Array.getElem?_eq_getElem _
        have : i ∈ Region.ready .any ops listed := mem_ready.2 ⟨hi2, _, ho, fun e he hb => by
          have hlt := drawOk_edges hd ho e he hb
          cases hle : listed.getD e.on true with
          | true =>
            have : e.on < listed.size := by omega
            simpa [Array.getD, this] using hle
          | false =>
            have hm : e.on ∈ rest ops listed := mem_rest.2 ⟨by omega, hle⟩
            have hsort := rest_sorted (ops := ops) listed
            rw [hr] at hm hsort
            rcases List.mem_cons.1 hm with rfl | hm
            · omega
            · have := (List.pairwise_cons.1 hsort).1 _ hm
              omega⟩
        rw [hrd] at this
        cases this
    · have him := hsub hi
      obtain ⟨hi2, o, ho, hpred⟩ := mem_ready.1 hi
      obtain ⟨s, t, hst⟩ := List.append_of_mem him
      have hsort := rest_sorted (ops := ops) listed
      rw [hst, List.pairwise_append] at hsort
      have hilt : i < ops.size := (Array.getElem?_eq_some_iff.1 ho).1
      by_cases him2 : i = m
      · -- the last one: all others are done
        subst him2
        rw [hom] at ho
        injection ho with ho
        subst ho
        have hs0 : s = [] := by
          cases s with
          | nil => rfl
          | cons k s =>
            exfalso
            have hk : k ∈ rest ops listed := by rw [hst]; simp
            have hki : k < i := hsort.2.2 k (by simp) i (by simp)
            have hlk := closed_bit hc i om hom hpred k (hbits k hki)
            have hk2 := mem_rest.1 hk
            have : k < listed.size := by omega
            simp [Array.getD, this] at hlk hk2
            rw [hlk] at hk2
            exact absurd hk2.2 (by simp)
        have ht0 : t = [] := by
          cases t with
          | nil => rfl
          | cons k t =>
            exfalso
            have hk : k ∈ rest ops listed := by rw [hst]; simp
            have hik := (List.pairwise_cons.1 hsort.2.1).1 k (by simp)
            have := (mem_rest.1 hk).1
            omega
        subst hs0; subst ht0
        have hrn : restN ops listed i = [] := by unfold restN; rw [hst]; simp
        rw [hrn] at hx
        simp only [sel, List.filterMap_nil, execOps, Except.ok.injEq, Prod.mk.injEq] at hx
        obtain ⟨rfl, rfl⟩ := hx
        refine stepOp_ok hI hclF hom (hdst hom) hso H hf hn fun E' a' S hE' hf' hsz hdf => ?_
        have hrs := rest_set hs hst
        have hf0 : fuel = 0 := by rw [hst] at hl; simpa using hl.symm
        subst hf0
        refine ⟨?_, hQ E' a' S hE' hf' hsz (hdf.resolve_left fun h => by rw [hdm] at h; cases h.2)⟩
        cases hrd : Region.ready .any ops (listed.setIfInBounds i true) with
        | nil => rfl
        | cons j l =>
          have : j ∈ rest ops (listed.setIfInBounds i true) := hsub (by rw [hrd]; simp)
          rw [hrs] at this
          cases this
      · have hsm : m ∉ s := fun h => by
          have := hsort.2.2 m h i (by simp)
          omega
        have hrn : restN ops listed m = s ++ i :: t.filter (fun j => j != m) := by
          unfold restN
          rw [hst, List.filter_append, List.filter_cons]
          have e1 : s.filter (fun j => j != m) = s := List.filter_eq_self.2 fun j hj => by
            have : j ≠ m := fun h => hsm (h ▸ hj)
            simp [this]
          rw [e1, if_pos (by simp [him2])]
        have hsel : sel ops (restN ops listed m) = sel ops s ++ o :: sel ops (t.filter (fun j => j != m)) := by
          rw [hrn]
          simp only [sel, List.filterMap_append, List.filterMap_cons, ho]
        have hom' : o ∈ ops.toList := by simpa using Array.mem_of_getElem? ho
        have hapart : ∀ x ∈ sel ops s, x ∈ ops.toList ∧ x.apart ops o = true ∧ (calm C.P x.op o.op || lsP ops.toList x o || lsP ops.toList o x) = true := by
          intro x hxm
          obtain ⟨k, hk, hkx⟩ := List.mem_filterMap.1 hxm
          refine ⟨by simpa using Array.mem_of_getElem? hkx, ?_⟩
          have hki : k < i := hsort.2.2 k hk i (by simp)
          rcases drawOk_pair hd hkx ho hki with hb | hap
          · have hlk := closed_bit hc i o ho hpred k hb
            have hk2 := (mem_rest.1 (by rw [hst]; simp [hk] : k ∈ rest ops listed))
            have : k < listed.size := by omega
            simp [Array.getD, this] at hlk hk2
            rw [hlk] at hk2
            exact absurd hk2.2 (by simp)
          · exact hap
        rw [hsel] at hx
        obtain ⟨G1, hx1, he1⟩ := pull hbl hom' (sel ops s) hLs hapart hx
        simp only [execOps, dstW] at hx1
        cases hso1 : stepOp C cl ops true o F E.h with
        | error e => rw [hso1] at hx1; cases hx1
        | ok r =>
          obtain ⟨e1, h1'⟩ := r
          rw [hso1] at hx1
          simp only at hx1
          refine stepOp_ok hI hcl ho (hdst ho) hso1 H hf hn fun E' a' S hE' hf' hsz hdf => ?_
          subst hE'
          have hrs := rest_set hs hst
          have hrn2 : restN ops (listed.setIfInBounds i true) m = s ++ t.filter (fun j => j != m) := by
            unfold restN
            rw [hrs, List.filter_append]
            congr 1
            exact List.filter_eq_self.2 fun j hj => by
              have : j ≠ m := fun h => hsm (h ▸ hj)
              simp [this]
          have hx2 : execOps C cl ops true (sel ops (restN ops (listed.setIfInBounds i true) m)) (putF F o.dst e1) E'.h = .ok (G1, h1) := by
            rw [hrn2]
            simp only [sel, List.filterMap_append] at hx1 ⊢
            exact hx1
          have hc' : Closed ops (listed.setIfInBounds i true) := by
            intro j oj hj hlj e' he' hb'
            by_cases hji : i = j
            · subst hji
              rw [ho] at hj
              injection hj with hj
              subst hj
              exact getD_set_true (hpred e' he' hb')
            · rw [getD_set_ne false hji] at hlj
              exact getD_set_true (hc j oj hj hlj e' he' hb')
          have hso2 : stepOp C clF ops false om G1 h1 = .ok (e, h2) := by
            rw [← hso]
            exact (stepOp_congr om (fun t _ => (he1 t).symm) (.inr (he1 dS).symm)).symm ▸ rfl
          refine ih _ _ G1 h1 h2 e E' a' (by simpa using hs) hc' (by rw [getD_set_ne true him2]; exact hlm) ?_ (hLs.put hom' e1) hx2 hso2 S.good hf' (by rw [hsz]; exact hn) fun E'' a'' S' hE'' hf'' hsz' hdf' =>
            hQ E'' a'' (S.trans S') hE'' (hf''.eq (FrEq.put (fun n => (he1 n).symm) _ e)) (hsz'.trans hsz) (hdf'.trans (hdf.resolve_left fun h => by cases h.1))
          rw [hrs]
          rw [hst] at hl
          simp at hl ⊢
          omega

theorem region_tail_ok (hI : ∀ w w', I w → Below B0 w w' → I w') (hm : C.P.follows .mixedOrders = true) {cl : Bool → FuncId → List AV → Hp → Except (List Nat) (AV × Hp)} (hcl : ∀ d, ClOk C I B0 (cl d)) (hbl : Blind (cl true)) (hd : drawOk C.P ops = true) (ht : tailO C ops = true)
    {n : Nat} (hds : (ops.toList.all fun o => dstOk n o.dst) = true) {Q : Exit → Act → World → Prop} {id : Nat} {F G : Fr} {h' : Hp} {E : Env} {a : Act}
    (hLs : LsF ops.toList F) (hx : execReg C cl ops true 0 ops.toList F E.h = .ok (G, h')) (H : Good C.G I B0 E) (hf : FrsOk E F a) (hn : n ≤ a.tmps.size)
    (hQ : ∀ E' a', Step C.G I B0 E E' → E'.h = h' → FrsOk E' G a' → a'.tmps.size = a.tmps.size → a'.defers = a.defers → Q .normal a' E'.w) : (Code.region id ops true).wp C.P Q a E.w := by
  refine wp_region_any hm ?_
  obtain ⟨m, om, hsz, hom, hdm, hbits⟩ := tail_spec ht
  have hb : ∀ B, Below B E.w { E.w with drawn := E.w.drawn + 1 } := fun B => ⟨rfl, rfl, rfl, Nat.le_refl _, fun _ _ => rfl⟩
  have S := step_same hI H (w' := { E.w with drawn := E.w.drawn + 1 }) (hb _) rfl
  have hl : ∀ i, (Array.replicate ops.size false).getD i false = false := fun i => by
    by_cases hi : i < ops.size <;> simp [Array.getD, hi]
  have hrest : rest ops (Array.replicate ops.size false) = List.range ops.size := by
    unfold rest
    exact List.filter_eq_self.2 fun i hi => by
      have : i < ops.size := by simpa using hi
      simp [Array.getD, this]
  have hrestN : restN ops (Array.replicate ops.size false) m = List.range m := by
    unfold restN
    rw [hrest, hsz, List.range_succ, List.filter_append]
    have : (List.range m).filter (fun j => j != m) = List.range m := List.filter_eq_self.2 fun j hj => by
      have : j < m := by simpa using hj
      simp; omega
    rw [this]
    simp
  have hselall : sel ops (List.range m) = ops.toList.take m := sel_range ops m (by omega)
  have hsplit : ops.toList = ops.toList.take m ++ [om] := by
    have h1 := List.take_append_drop m ops.toList
    have hm' : m < ops.toList.length := by simp; omega
    have h2 : ops.toList.drop m = [om] := by
      rw [List.drop_eq_getElem_cons hm', List.drop_eq_nil_of_le (by simp; omega)]
      have : ops.toList[m]? = some om := by simpa using hom
      rw [List.getElem?_eq_getElem hm'] at this
      injection this with this
      rw [this]
    rw [h2] at h1
    exact h1.symm
  rw [hsplit] at hx
  obtain ⟨F1, h1, e, q1, q2, q3⟩ := execReg_tail ht (ops.toList.take m) 0 F E.h (by simp; omega) hx
  subst q3
  have hlm0 : (Array.replicate ops.size false).getD m true = false := by
    have : m < ops.size := by omega
    simp [Array.getD, this]
  exact any_tail_ok hI (hcl true) (hcl false) hbl hd hds hsz hom hdm hbits ops.size _ F F1 h1 h' e { E with w := { E.w with drawn := E.w.drawn + 1 } } a (by simp) (fun j o _ hlj => by rw [hl] at hlj; cases hlj) hlm0 (by rw [hrest]; simp) hLs
    (by rw [hrestN, hselall]; exact q1) q2 S.good (FrsOk.mono S.le hf) hn fun E' a' S' => hQ E' a' (S.trans S')

end
end Go.Ai
