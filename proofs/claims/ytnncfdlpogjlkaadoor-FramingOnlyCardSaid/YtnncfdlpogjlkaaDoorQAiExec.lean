/-
  The evaluator is sound: what it answers, the program answers.
-/
import Derived.Test.YtnncfdlpogjlkaaDoorQAiJump
import Derived.Defers
namespace Go.Ai
set_option linter.unusedVariables false
set_option linter.unusedSimpArgs false
set_option linter.unnecessarySimpa false
open Go.RowKit

def toExit : XT → Exit
  | .normal => .normal
  | .exit id => .exit id
  | .goto l => .goto l
  | .ret => .ret

/-- What must be known of a configuration. -/
structure Sound (C : Cfg) (I : World → Prop) (B0 : Nat) : Prop where
  hI : ∀ w w', I w → Below B0 w w' → I w'
  mixed : C.P.follows .mixedOrders = true
  pureG : ∀ g cs, C.G g = some cs → pureV.pureVs cs = true
  ident : IdentOk C
  fns : ∀ k, C.ok k = true → Callee C.P k
  hprims : ∀ k g vs h v h', C.ok k = true → C.hprim k = some g → g vs h = some (v, h') → ∀ (E : Env) (args : List Value), E.h = h → Good C.G I B0 E → Rels E vs args → Calls C.P k args.toArray E.w (CallPost C.G I B0 E v h')
  codes : ∀ k fn c, C.ok k = true → C.hprim k = none → C.prim k = none → C.P.funcs[k]? = some fn → fn.body = some c → okCode C.P fn.ntmps c = true
  prims : ∀ k g vs v, C.ok k = true → C.prim k = some g → g vs = some (true, v) → ∀ (E : Env) (args : List Value), E.h = [] → E.B = E.w.heap.size → Good C.G I B0 E → Rels E vs args →
    Calls C.P k args.toArray E.w (fun e w' => ∃ c, e = .returned c ∧ Below E.w.heap.size E.w w' ∧ Rel { E with w := w' } v c)

section
variable {C : Cfg} {I : World → Prop} {B0 : Nat}

def ExecOk (C : Cfg) (I : World → Prop) (B0 : Nat) (n : Nat) : Prop :=
  ∀ (f : FuncId) (c : Code) (F : Fr) (h : Hp) (x : XT) (F' : Fr) (h' : Hp) (m : Nat), exec C f n c F h = .ok (x, F', h') → okCode C.P m c = true → ∀ (E : Env) (a : Act), E.h = h → Good C.G I B0 E → FrsOk E F a → m ≤ a.tmps.size →
    ∀ Q : Exit → Act → World → Prop, (∀ E' a', Step C.G I B0 E E' → E'.h = h' → FrsOk E' F' a' → a'.tmps.size = a.tmps.size → (C.dfr f = true ∨ a'.defers = a.defers) → Q (toExit x) a' E'.w) → c.wp C.P Q a E.w

theorem DT.trans' {D : Prop} {x y z : List Deferred} (h : D ∨ x = y) (k : D ∨ y = z) : D ∨ x = z := by
  rcases h with h | h
  · exact .inl h
  · rcases k with k | k
    · exact .inl k
    · exact .inr (h.trans k)

theorem lk_map {F : Fr} {a : Act} {E : Env} (hf : FrsOk E F a) (ls : List Nat) : FrsOk E (ls.map fun s => (s, lk F s)) a := by
  refine ⟨fun s => ?_, ?_⟩
  · induction ls with
    | nil => exact ⟨fun _ => trivial, fun h => by cases h⟩
    | cons l ls ih =>
      simp only [List.map_cons, lk]
      cases hb : Nat.beq l s with
      | true =>
        have := Nat.eq_of_beq_eq_true hb
        subst this
        exact hf.1 l
      | false => exact ih
  · induction ls with
    | nil => trivial
    | cons l ls ih =>
      simp only [List.map_cons, lk]
      cases hb : Nat.beq l dS with
      | true =>
        have := Nat.eq_of_beq_eq_true hb
        subst this
        exact hf.2
      | false => exact ih

theorem lk_stripF (n : Nat) (h : Hp) : ∀ (F : Fr) (s : Nat), lk (stripF n h F) s = ((lk F s).1, strip n h (lk F s).2)
  | [], s => rfl
  | (t, e) :: r, s => by
    show lk ((t, e.1, strip n h e.2) :: stripF n h r) s = _
    simp only [lk]
    cases hb : Nat.beq t s with
    | true => rfl
    | false => exact lk_stripF n h r s

theorem DefsOf.cut {n : Nat} {h : Hp} {E E' : Env} (K : Cut n h E E') : ∀ {l : List AV} {ds : List Deferred}, DefsOf E l ds → DefsOf E' (strips n h l) ds
  | [], _, h => h
  | .fn f first cap :: l, _, h => by
    obtain ⟨d, r, h1, ⟨b, q1, q2, q3⟩, h3⟩ := h
    exact ⟨d, r, h1, ⟨b, q1, Rels.cut K _ _ q2, Rels.cut K _ _ q3⟩, DefsOf.cut K h3⟩

theorem frs_strip {n : Nat} {h : Hp} {E E' : Env} (K : Cut n h E E') {F : Fr} {a : Act} (hf : FrsOk E F a) : FrsOk E' (stripF n h F) a := by
  refine ⟨fun s => ?_, ?_⟩
  · rw [lk_stripF]
    exact ⟨fun hg => Rel.cut K _ _ ((hf.1 s).1 hg), (hf.1 s).2⟩
  · rw [lk_stripF]
    have h2 := hf.2
    revert h2
    generalize (lk F dS).2 = v
    intro h2
    cases v with
    | dfr l => exact DefsOf.cut K h2
    | ptr b o => simp only [strip]; cases Nat.blt b n <;> trivial
    | osl b o c d => simp only [strip]; cases Nat.blt b n <;> trivial
    | itr b => simp only [strip]; cases Nat.blt b n <;> trivial
    | sl sz es own => cases own <;> trivial
    | _ => trivial

theorem rounds_ok (S0 : Sound C I B0) {n : Nat} (ih : ∀ m, m < n → ExecOk C I B0 m) : ∀ (f : FuncId) (c : Code) (F : Fr) (h : Hp) (x : XT) (F' : Fr) (h' : Hp) (m : Nat), exec C f n (.loop c) F h = .ok (x, F', h') → okCode C.P m c = true →
    ∀ (E : Env) (a : Act), E.h = h → Good C.G I B0 E → FrsOk E F a → m ≤ a.tmps.size →
    ∀ Q : Exit → Act → World → Prop, (∀ E' a', Step C.G I B0 E E' → E'.h = h' → FrsOk E' F' a' → a'.tmps.size = a.tmps.size → (C.dfr f = true ∨ a'.defers = a.defers) → Q (toExit x) a' E'.w) → Code.rounds C.P c Q n a E.w := by
  induction n with
  | zero => intro f c F h x F' h' m hx; simp [exec] at hx
  | succ n ihn =>
    intro f c F h x F' h' m hx hok E a hE H hf hm Q hQ
    rw [rounds_succ]
    simp only [exec] at hx
    cases hc : exec C f n c F h with
    | error e => rw [hc] at hx; cases hx
    | ok r =>
      obtain ⟨x1, F1, h1⟩ := r
      rw [hc] at hx
      refine ih n (Nat.lt_succ_self n) f c F h x1 F1 h1 m hc hok E a hE H hf hm _ fun E1 a1 S1 hE1 hf1 hs1 hd1 => ?_
      cases x1 with
      | normal =>
        simp only at hx
        cases ht : C.trunc f with
        | false =>
          rw [ht] at hx
          exact ihn (fun k hk => ih k (Nat.lt_succ_of_lt hk)) f c F1 h1 x F' h' m hx hok E1 a1 hE1 S1.good hf1 (by rw [hs1]; exact hm) Q
            fun E2 a2 S2 hE2 hf2 hs2 hd2 => hQ E2 a2 (S1.trans S2) hE2 hf2 (hs2.trans hs1) (DT.trans' hd2 hd1)
        | true =>
          rw [ht] at hx
          subst hE; subst hE1
          obtain ⟨K, S'⟩ := step_keep H S1 S0.pureG
          exact ihn (fun k hk => ih k (Nat.lt_succ_of_lt hk)) f c _ _ x F' h' m hx hok { E1 with h := (E1.h.take E.h.length).map (stripB E.h.length E1.h) } a1 rfl S'.good (frs_strip K hf1) (by rw [hs1]; exact hm) Q
            fun E2 a2 S2 hE2 hf2 hs2 hd2 => hQ E2 a2 (S'.trans S2) hE2 hf2 (hs2.trans hs1) (DT.trans' hd2 hd1)
      | _ =>
        simp only [Except.ok.injEq, Prod.mk.injEq] at hx
        obtain ⟨rfl, rfl, rfl⟩ := hx
        exact hQ E1 a1 S1 hE1 hf1 hs1 hd1

theorem passes_ok {n : Nat} (ih : ∀ m, m < n → ExecOk C I B0 m) : ∀ (f : FuncId) (c cur : Code) (F : Fr) (h : Hp) (x : XT) (F' : Fr) (h' : Hp) (m : Nat), scopeGo C f n c cur F h = .ok (x, F', h') → okCode C.P m c = true → okCode C.P m cur = true →
    ∀ (E : Env) (a : Act), E.h = h → Good C.G I B0 E → FrsOk E F a → m ≤ a.tmps.size →
    ∀ Q : Exit → Act → World → Prop, (∀ E' a', Step C.G I B0 E E' → E'.h = h' → FrsOk E' F' a' → a'.tmps.size = a.tmps.size → (C.dfr f = true ∨ a'.defers = a.defers) → Q (toExit x) a' E'.w) → passes C.P c Q n cur a E.w := by
  induction n with
  | zero => intro f c cur F h x F' h' m hx; simp [scopeGo] at hx
  | succ n ihn =>
    intro f c cur F h x F' h' m hx hok hokc E a hE H hf hm Q hQ
    simp only [scopeGo] at hx
    show cur.wp C.P (Exit.jumping c (passes C.P c Q n) Q) a E.w
    cases hc : exec C f n cur F h with
    | error e => rw [hc] at hx; cases hx
    | ok r =>
      obtain ⟨x1, F1, h1⟩ := r
      rw [hc] at hx
      refine ih n (Nat.lt_succ_self n) f cur F h x1 F1 h1 m hc hokc E a hE H hf hm _ fun E1 a1 S1 hE1 hf1 hs1 hd1 => ?_
      cases x1 with
      | goto l =>
        simp only at hx
        simp only [toExit, Exit.jumping]
        cases hfl : findLabel c l with
        | some rest =>
          rw [hfl] at hx
          exact ihn (fun k hk => ih k (Nat.lt_succ_of_lt hk)) f c rest F1 h1 x F' h' m hx hok (okCode_findLabel hok hfl) E1 a1 hE1 S1.good hf1 (by rw [hs1]; exact hm) Q
            fun E2 a2 S2 hE2 hf2 hs2 hd2 => hQ E2 a2 (S1.trans S2) hE2 hf2 (hs2.trans hs1) (DT.trans' hd2 hd1)
        | none =>
          rw [hfl] at hx
          simp only [Except.ok.injEq, Prod.mk.injEq] at hx
          obtain ⟨rfl, rfl, rfl⟩ := hx
          exact hQ E1 a1 S1 hE1 hf1 hs1 hd1
      | _ =>
        simp only [Except.ok.injEq, Prod.mk.injEq] at hx
        obtain ⟨rfl, rfl, rfl⟩ := hx
        exact hQ E1 a1 S1 hE1 hf1 hs1 hd1

theorem exec_ok (S0 : Sound C I B0) {n : Nat} (ih : ∀ m, m < n → ExecOk C I B0 m) (hcl : ∀ m draw, m < n → ClOk C I B0 (call C draw m)) (hbl : ∀ m, m < n → Blind (call C true m)) : ExecOk C I B0 n := by
  intro f c F h x F' h' m hx hok E a hE H hf hm Q hQ
  cases n with
  | zero => simp [exec] at hx
  | succ n =>
    have ihn := ih n (Nat.lt_succ_self n)
    cases c with
    | skip =>
      simp only [exec, Except.ok.injEq, Prod.mk.injEq] at hx
      obtain ⟨rfl, rfl, rfl⟩ := hx
      exact wp_skip (hQ E a (Step.refl H) hE hf rfl (.inr rfl))
    | ret =>
      simp only [exec, Except.ok.injEq, Prod.mk.injEq] at hx
      obtain ⟨rfl, rfl, rfl⟩ := hx
      exact wp_ret (hQ E a (Step.refl H) hE hf rfl (.inr rfl))
    | exit id =>
      simp only [exec, Except.ok.injEq, Prod.mk.injEq] at hx
      obtain ⟨rfl, rfl, rfl⟩ := hx
      exact wp_exit (hQ E a (Step.refl H) hE hf rfl (.inr rfl))
    | seq p q =>
      simp only [okCode, Bool.and_eq_true] at hok
      simp only [exec] at hx
      cases hc : exec C f n p F h with
      | error e => rw [hc] at hx; cases hx
      | ok r =>
        obtain ⟨x1, F1, h1⟩ := r
        rw [hc] at hx
        refine wp_seq (ihn f p F h x1 F1 h1 m hc hok.1 E a hE H hf hm _ fun E1 a1 S1 hE1 hf1 hs1 hd1 => ?_)
        cases x1 with
        | normal =>
          simp only at hx
          exact ihn f q F1 h1 x F' h' m hx hok.2 E1 a1 hE1 S1.good hf1 (by rw [hs1]; exact hm) Q fun E2 a2 S2 hE2 hf2 hs2 hd2 => hQ E2 a2 (S1.trans S2) hE2 hf2 (hs2.trans hs1) (DT.trans' hd2 hd1)
        | _ =>
          simp only [Except.ok.injEq, Prod.mk.injEq] at hx
          obtain ⟨rfl, rfl, rfl⟩ := hx
          exact hQ E1 a1 S1 hE1 hf1 hs1 hd1
    | cond y p q =>
      simp only [okCode, Bool.and_eq_true] at hok
      simp only [exec] at hx
      split at hx
      · rename_i hev
        have hv : a.eval y = .bool true := ev_rel H hf hev rfl
        exact wp_cond_true hv (ihn f p F h x F' h' m hx hok.1 E a hE H hf hm Q hQ)
      · rename_i hev
        have hv : a.eval y = .bool false := ev_rel H hf hev rfl
        exact wp_cond_false hv (ihn f q F h x F' h' m hx hok.2 E a hE H hf hm Q hQ)
      · cases hx
    | block id p =>
      simp only [okCode] at hok
      simp only [exec] at hx
      cases hc : exec C f n p F h with
      | error e => rw [hc] at hx; cases hx
      | ok r =>
        obtain ⟨x1, F1, h1⟩ := r
        rw [hc] at hx
        refine wp_block (ihn f p F h x1 F1 h1 m hc hok E a hE H hf hm _ fun E1 a1 S1 hE1 hf1 hs1 hd1 => ?_)
        cases x1 with
        | exit id' =>
          simp only at hx
          show (if id' = id then Q .normal a1 E1.w else Q (.exit id') a1 E1.w)
          cases hb : Nat.beq id' id with
          | true =>
            rw [hb] at hx
            simp only [cond_true, Except.ok.injEq, Prod.mk.injEq] at hx
            obtain ⟨rfl, rfl, rfl⟩ := hx
            rw [if_pos (Nat.eq_of_beq_eq_true hb)]
            exact hQ E1 a1 S1 hE1 hf1 hs1 hd1
          | false =>
            rw [hb] at hx
            simp only [cond_false, Except.ok.injEq, Prod.mk.injEq] at hx
            obtain ⟨rfl, rfl, rfl⟩ := hx
            rw [if_neg fun e => by subst e; simp [Nat.beq_refl] at hb]
            exact hQ E1 a1 S1 hE1 hf1 hs1 hd1
        | _ =>
          simp only [Except.ok.injEq, Prod.mk.injEq] at hx
          obtain ⟨rfl, rfl, rfl⟩ := hx
          exact hQ E1 a1 S1 hE1 hf1 hs1 hd1
    | label l =>
      simp only [exec, Except.ok.injEq, Prod.mk.injEq] at hx
      obtain ⟨rfl, rfl, rfl⟩ := hx
      exact wp_label (hQ E a (Step.refl H) hE hf rfl (.inr rfl))
    | goto l =>
      simp only [exec, Except.ok.injEq, Prod.mk.injEq] at hx
      obtain ⟨rfl, rfl, rfl⟩ := hx
      exact wp_goto (hQ E a (Step.refl H) hE hf rfl (.inr rfl))
    | scope p =>
      simp only [okCode] at hok
      simp only [exec] at hx
      exact wp_scope_passes n (passes_ok (fun k hk => ih k (Nat.lt_succ_of_lt hk)) f p p F h x F' h' m hx hok hok E a hE H hf hm Q hQ)
    | loop p =>
      simp only [okCode] at hok
      exact wp_loop_rounds (n + 1) (rounds_ok S0 ih f p F h x F' h' m hx hok E a hE H hf hm Q hQ)
    | region id ops draw =>
      simp only [okCode, Bool.and_eq_true] at hok
      simp only [exec] at hx
      cases hdd0 : (!C.dfr f && hasDef ops.toList) || (draw && !lsOk ops.toList ((C.live f id).map fun s => (s, lk F s))) with
      | true => rw [hdd0] at hx; cases hx
      | false =>
      rw [hdd0] at hx
      simp only at hx
      rw [Bool.or_eq_false_iff] at hdd0
      obtain ⟨hdd, hlso⟩ := hdd0
      have hdd' : C.dfr f = true ∨ hasDef ops.toList = false := by
        cases h1 : C.dfr f <;> simp_all
      cases ho : execReg C (fun d => call C d n) ops draw 0 ops.toList ((C.live f id).map fun s => (s, lk F s)) h with
      | error e => rw [ho] at hx; cases hx
      | ok r =>
        obtain ⟨F1, h1⟩ := r
        rw [ho] at hx
        simp only [Except.ok.injEq, Prod.mk.injEq] at hx
        obtain ⟨rfl, rfl, rfl⟩ := hx
        subst hE
        have fin : ∀ E' a', Step C.G I B0 E E' → E'.h = h1 → FrsOk E' F1 a' → a'.tmps.size = a.tmps.size → (C.dfr f = true ∨ a'.defers = a.defers) → Q .normal a' E'.w := fun E' a' S hE' hf' hs hd => hQ E' a' S hE' hf' hs hd
        have hf0 := lk_map hf (C.live f id)
        cases draw with
        | true =>
          cases htl : tailO C ops with
          | true => exact region_tail_ok S0.hI S0.mixed (fun d => hcl n d (Nat.lt_succ_self n)) (hbl n (Nat.lt_succ_self n)) (by simpa using hok.2) htl hok.1 (lsF_of (by simpa using hlso)) ho H hf0 hm fun E' a' S hE' hf' hs hd => fin E' a' S hE' hf' hs (.inr hd)
          | false =>
          rw [execReg_plain (.inr htl)] at ho
          exact region_any_ok S0.hI S0.mixed (hcl n true (Nat.lt_succ_self n)) (hbl n (Nat.lt_succ_self n)) (by simpa using hok.2) hok.1 (lsF_of (by simpa using hlso)) ho H hf0 hm fun E' a' S hE' hf' hs hd => fin E' a' S hE' hf' hs (.inr hd)
        | false =>
          rw [execReg_plain (.inl rfl)] at ho
          have hsel := sel_range ops ops.size (Nat.le_refl _)
          rw [List.take_of_length_le (by simp)] at hsel
          exact wp_region (execOps_ok S0.hI (hcl n false (Nat.lt_succ_self n)) (List.range ops.size) _ E.h F1 h1 (by rw [hsel]; exact hok.1) (by rw [hsel]; exact ho) E a rfl H hf0 hm fun E' a' S hE' hf' hs hd => fin E' a' S hE' hf' hs (by
            rcases hd with ⟨_, h2⟩ | hd
            · rw [hsel] at h2
              rcases hdd' with h | h
              · exact .inl h
              · rw [h] at h2; cases h2
            · exact .inr hd))
    | _ => simp [exec] at hx

theorem resOne_ok {E : Env} (H : Good C.G I B0 E) {F : Fr} {a : Act} (hf : FrsOk E F a) {r : ResultVar} {g : Bool} {v : AV} (hr : resOne C.P F E.h r = some (g, v)) (hg : g = true) :
    ∃ c, ((match r with | .tmp t => pure (a.tmps.getD t undef) | .cell x t => do loadVar t (← asAddr (a.tmps.getD x undef))) : Sem Value).run C.P E.w = .ok c E.w ∧ Rel E v c := by
  subst hg
  cases r with
  | tmp t =>
    simp only [resOne, Option.some.injEq] at hr
    have := (hf.1 t).1 (by rw [hr])
    rw [hr] at this
    exact ⟨_, rfl, this⟩
  | cell x t =>
    simp only [resOne] at hr
    split at hr
    · rename_i g b o hl
      split at hr
      · rename_i cs hb
        cases hrd : rd C.P t (cs.drop o) with
        | none => rw [hrd] at hr; cases hr
        | some u =>
          rw [hrd] at hr
          simp only [Option.map_some, Option.some.injEq, Prod.mk.injEq] at hr
          obtain ⟨rfl, rfl⟩ := hr
          have := (hf.1 x).1 (by rw [hl])
          rw [hl] at this
          obtain ⟨t2, cs2, gg, h2, h3, h4⟩ := this
          rw [h2] at hb
          injection hb with hb
          injection hb with hb0 hb
          subst hb
          obtain ⟨c, k1, k2⟩ := rd_ok hrd (mem_rdb H h2 h3)
          refine ⟨c, ?_, k2⟩
          simp only [h4, asAddr]
          simpa using k1
      · cases hr
    · cases hr

theorem resAll_ok {E : Env} (H : Good C.G I B0 E) {F : Fr} {a : Act} (hf : FrsOk E F a) : ∀ (rs : List ResultVar) {vs : List AV}, resAll C.P F E.h rs = some (true, vs) →
    ∃ cs, (rs.mapM (fun r => ((match r with | .tmp t => pure (a.tmps.getD t undef) | .cell x t => do loadVar t (← asAddr (a.tmps.getD x undef))) : Sem Value))).run C.P E.w = .ok cs E.w ∧ Rels E vs cs
  | [], vs, h => by
    simp only [resAll, Option.some.injEq, Prod.mk.injEq] at h
    obtain ⟨-, rfl⟩ := h
    exact ⟨[], by simp, rfl⟩
  | r :: rs, vs, h => by
    simp only [resAll] at h
    split at h
    · rename_i g v g' vs' h1 h2
      simp only [Option.some.injEq, Prod.mk.injEq, Bool.and_eq_true] at h
      obtain ⟨⟨rfl, rfl⟩, rfl⟩ := h
      obtain ⟨c, k1, k2⟩ := resOne_ok H hf h1 rfl
      obtain ⟨cs, k3, k4⟩ := resAll_ok H hf rs h2
      refine ⟨c :: cs, ?_, c, cs, rfl, k2, k4⟩
      rw [List.mapM_cons, Sem.run_bind, k1, Result.andThen_ok, Sem.run_bind, k3, Result.andThen_ok]
      rfl
    · cases h

theorem result_ok {E : Env} (H : Good C.G I B0 E) {F : Fr} {a : Act} (hf : FrsOk E F a) {fn : Func} {v : AV} (h : result C.P fn F E.h = some v) :
    ∃ c, (results fn a.tmps).run C.P E.w = .ok c E.w ∧ Rel E v c := by
  unfold result at h
  have key : ∀ vs, resAll C.P F E.h fn.results.toList = some (true, vs) → ∃ cs : List Value, (results fn a.tmps).run C.P E.w = .ok (if h : cs.length = 1 then cs[0] else .tuple cs.toArray) E.w ∧ Rels E vs cs := by
    intro vs hv
    obtain ⟨cs, k1, k2⟩ := resAll_ok H hf _ hv
    refine ⟨cs, ?_, k2⟩
    have e : results fn a.tmps = (fn.results.toList.mapM (fun r => ((match r with | .tmp t => pure (a.tmps.getD t undef) | .cell x t => do loadVar t (← asAddr (a.tmps.getD x undef))) : Sem Value))) >>= fun cs =>
        pure (if h : cs.toArray.size = 1 then cs.toArray[0] else .tuple cs.toArray) := by
      unfold results
      rw [Array.mapM_eq_mapM_toList, bind_map_left]
      rfl
    rw [e, Sem.run_bind, k1, Result.andThen_ok]
    by_cases h1 : cs.length = 1
    · simp [h1]
    · simp [h1]
  split at h
  · rename_i u hu
    injection h with h
    subst h
    obtain ⟨cs, k1, k2⟩ := key _ hu
    obtain ⟨c, r, rfl, q1, q2⟩ := k2
    simp only [Rels] at q2
    subst q2
    exact ⟨c, by simpa using k1, q1⟩
  · rename_i vs hne hu
    injection h with h
    subst h
    obtain ⟨cs, k1, k2⟩ := key _ hu
    have hl := k2.length
    have : ¬cs.length = 1 := fun h1 => by
      rw [hl] at h1
      obtain ⟨u, rfl⟩ := List.length_eq_one_iff.1 h1
      exact hne u rfl
    rw [dif_neg this] at k1
    exact ⟨_, k1, _, rfl, by simpa using k2⟩
  · cases h

theorem argFr_lk : ∀ (vs : List AV) (n s : Nat), n ≤ dS → lk (argFr n vs) s = (true, if s < n ∨ dS ≤ s then .top else (vs[s - n]?).getD .top)
  | [], n, s, _ => by simp [argFr, lk]
  | v :: vs, n, s, hn => by
    simp only [argFr]
    cases hd : Nat.beq n 1000000 with
    | true =>
      have := Nat.eq_of_beq_eq_true hd
      rw [if_pos (by unfold dS; omega)]
      rfl
    | false =>
      have hlt : n < dS := Nat.lt_of_le_of_ne hn fun e => by subst e; simp [dS] at hd
      simp only [cond_false, lk]
      rw [argFr_lk vs (n + 1) s hlt]
      cases hb : Nat.beq n s with
      | true =>
        have := Nat.eq_of_beq_eq_true hb
        subst this
        rw [cond_true, if_neg (by omega)]
        simp
      | false =>
        have hne : n ≠ s := fun e => by subst e; simp [Nat.beq_refl] at hb
        simp only [cond_false]
        by_cases h1 : s < n ∨ dS ≤ s
        · rw [if_pos h1, if_pos (by omega)]
        · rw [if_neg h1, if_neg (by omega)]
          rw [show s - n = (s - (n + 1)) + 1 by omega, List.getElem?_cons_succ]

theorem Rels.get {E : Env} : ∀ {xs : List AV} {vs : List Value}, Rels E xs vs → ∀ (i : Nat) x, xs[i]? = some x → ∃ v, vs[i]? = some v ∧ Rel E x v
  | [], vs, _, i, x, hx => by simp at hx
  | c :: cs, vs, h, i, x, hx => by
    obtain ⟨v, r, rfl, h1, h2⟩ := h
    cases i with
    | zero =>
      simp only [List.getElem?_cons_zero, Option.some.injEq] at hx
      subst hx
      exact ⟨v, rfl, h1⟩
    | succ i => exact Rels.get h2 i x (by simpa using hx)

theorem argFr_ok {E : Env} {vs : List AV} {args : List Value} (h : Rels E vs args) (n : Nat) : FrsOk E (argFr 0 vs) { tmps := args.toArray ++ Array.replicate (n - args.toArray.size) undef, defers := [] } := by
  refine ⟨fun s => ?_, by rw [argFr_lk vs 0 dS (by decide), if_pos (.inr (Nat.le_refl _))]; trivial⟩
  rw [argFr_lk vs 0 s (by decide)]
  refine ⟨fun _ => ?_, fun h => by cases h⟩
  by_cases h1 : s < 0 ∨ dS ≤ s
  · rw [if_pos h1]; trivial
  rw [if_neg h1]
  simp only [Nat.sub_zero]
  cases hv : vs[s]? with
  | none => trivial
  | some x =>
    obtain ⟨v, h1, h2⟩ := h.get s x hv
    have hlt : s < args.length := (List.getElem?_eq_some_iff.1 h1).1
    have hget : (args.toArray ++ Array.replicate (n - args.toArray.size) undef).getD s undef = v := by
      have h3 : (args.toArray ++ Array.replicate (n - args.toArray.size) undef)[s]? = some v := by
        rw [Array.getElem?_append_left (by simpa using hlt)]
        simpa using h1
      rw [Array.getD_eq_getD_getElem?, h3]
      rfl
    rw [Option.getD_some]
    exact hget ▸ h2

theorem lk_append : ∀ (F G : Fr) (s : Nat), lk (F ++ G) s = lk F s ∨ lk (F ++ G) s = lk G s
  | [], G, s => .inr rfl
  | (t, e) :: F, G, s => by
    simp only [List.cons_append, lk]
    cases Nat.beq t s with
    | true => exact .inl rfl
    | false => exact lk_append F G s

theorem argFr_dS : ∀ (vs : List AV) (n : Nat), n ≤ dS → ∀ G, lk (argFr n vs ++ G) dS = lk G dS
  | [], n, _, G => rfl
  | v :: vs, n, hn, G => by
    simp only [argFr]
    cases hd : Nat.beq n 1000000 with
    | true => rfl
    | false =>
      have hd2 : Nat.beq n dS = false := hd
      have hlt : n < dS := Nat.lt_of_le_of_ne hn fun e => by subst e; simp [dS] at hd
      simp only [cond_false, List.cons_append, lk, hd2]
      exact argFr_dS vs (n + 1) hlt G

theorem frame0_ok {E : Env} {vs : List AV} {args : List Value} (h : Rels E vs args) (k : FuncId) (n : Nat) : FrsOk E (frame0 C k vs) { tmps := args.toArray ++ Array.replicate (n - args.toArray.size) undef, defers := [] } := by
  have ha := argFr_ok h n
  unfold frame0
  cases C.dfr k with
  | false => exact ha
  | true =>
    refine ⟨fun s => ?_, by simp only [argFr_dS vs 0 (by decide), lk, Nat.beq_refl, cond_true]; exact rfl⟩
    rcases lk_append (argFr 0 vs) [(dS, true, .dfr [])] s with e | e
    · rw [e]; exact ha.1 s
    · rw [e]
      simp only [lk]
      cases Nat.beq dS s with
      | true => exact ⟨fun _ => trivial, fun h => by cases h⟩
      | false => exact ⟨fun _ => trivial, fun h => by cases h⟩

/-- Calls that were put off. -/
def DOk (C : Cfg) (I : World → Prop) (B0 : Nat) (cl : FuncId → List AV → Hp → Except (List Nat) (AV × Hp)) : Prop :=
  ∀ k vs h v h', C.hprim k = none → C.prim k = none → C.dfr k = false → cl k vs h = .ok (v, h') → Callee C.P k ∧ ∀ (E : Env) (args : List Value), E.h = h → Good C.G I B0 E → Rels E vs args →
    ∀ u, CallsD C.P k args.toArray u E.w fun e u' w' => u' = u ∧ CallPost C.G I B0 E v h' e w'

theorem runD_ok {cl : FuncId → List AV → Hp → Except (List Nat) (AV × Hp)} (hD : DOk C I B0 cl) {fn : Func} {tmps : Array Value} {R : Ending → World → Prop} {h2 : Hp} :
    ∀ (l : List AV) (ds : List Deferred) (E : Env), Good C.G I B0 E → DefsOf E l ds → runD C cl l E.h = some h2 →
      (∀ E', Step C.G I B0 E E' → E'.h = h2 → ∃ c, (results fn tmps).run C.P E'.w = .ok c E'.w ∧ R (.returned c) E'.w) → Leaves C.P fn tmps R ds .returning E.w
  | [], ds, E, H, hds, hx, hR => by
    simp only [DefsOf] at hds
    subst hds
    simp only [runD, Option.some.injEq] at hx
    exact hR E (Step.refl H) hx
  | v :: l, ds, E, H, hds, hx, hR => by
    obtain ⟨d, r, rfl, h1, h3⟩ := hds
    cases v with
    | fn f first cap =>
      cases f with
      | func k =>
        simp only [runD] at hx
        split at hx
        · rename_i v1 h1' hc hcl
          simp only [Bool.or_eq_false_iff, Option.isSome_eq_false_iff, Option.isNone_iff_eq_none] at hc
          obtain ⟨b, q1, q2, q3⟩ := h1
          obtain ⟨⟨fn', hfn, hb, hname⟩, hcall⟩ := hD k _ _ _ _ hc.1.1 hc.1.2 hc.2 hcl
          have hc2 := hcall E _ rfl H (Rels.append q2 q3) .returning
          have harr : (d.args.toList ++ b.toList).toArray = d.args ++ b := by apply Array.ext'; simp
          rw [harr] at hc2
          refine ⟨by simp, .func k, b, k, d.args ++ b, q1, ?_, ?_⟩
          · rw [q1]
            simp only [invoke, callFunc, Sem.run_bind, run_program, Result.andThen_ok, hfn, hname, hb]
            rfl
          · refine hc2.mono fun e u' w' hp => ?_
            obtain ⟨rfl, c, E1, rfl, rfl, S, hE1, _⟩ := hp
            simp only [settle]
            exact runD_ok hD l r E1 S.good (h3.mono S.le) (by rw [hE1]; exact hx) fun E' S' hE' => hR E' (S.trans S') hE'
        · cases hx
      | _ => simp [runD] at hx
    | _ => exact h1.elim

theorem finish_ok {cl : FuncId → List AV → Hp → Except (List Nat) (AV × Hp)} (hD : DOk C I B0 cl) {k : FuncId} {fn : Func} {F : Fr} {u : AV} {h2 : Hp} {E : Env} {a : Act} {R : Ending → World → Prop}
    (hx : finish C cl k fn F E.h = some (u, h2)) (H : Good C.G I B0 E) (hf : FrsOk E F a) (hd : C.dfr k = true ∨ a.defers = [])
    (hR : ∀ E' c, Step C.G I B0 E E' → E'.h = h2 → Rel E' u c → R (.returned c) E'.w) : Leaves C.P fn a.tmps R a.defers .returning E.w := by
  unfold finish at hx
  cases hk : C.dfr k with
  | false =>
    rw [hk] at hx
    simp only at hx
    split at hx
    · rename_i v hv
      simp only [Option.some.injEq, Prod.mk.injEq] at hx
      obtain ⟨rfl, rfl⟩ := hx
      rw [hd.resolve_left (by rw [hk]; simp)]
      obtain ⟨c, k1, k2⟩ := result_ok H hf hv
      exact ⟨c, k1, hR E c (Step.refl H) rfl k2⟩
    · cases hx
  | true =>
    rw [hk] at hx
    simp only at hx
    split at hx
    · rename_i g l hl
      split at hx
      · rename_i h' hrun
        split at hx
        · rename_i v hv
          simp only [Option.some.injEq, Prod.mk.injEq] at hx
          obtain ⟨rfl, rfl⟩ := hx
          have h2 := hf.2
          rw [hl] at h2
          refine runD_ok hD l a.defers E H h2 hrun fun E' S hE' => ?_
          obtain ⟨c, k1, k2⟩ := result_ok S.good (FrsOk.mono S.le hf) (by rw [hE']; exact hv)
          exact ⟨c, k1, hR E' c S hE' k2⟩
        · cases hx
      · cases hx
    · cases hx

/-- A function's body. -/
theorem body_ok (S0 : Sound C I B0) {n : Nat} (ihn : ExecOk C I B0 n) (hD : DOk C I B0 (call C false n)) {draw : Bool} {k : FuncId} {vs : List AV} {h : Hp} {v : AV} {h' : Hp} (hok : C.ok k = true) (hhp : C.hprim k = none) (hp : C.prim k = none)
    (hx : call C draw (n + 1) k vs h = .ok (v, h')) : ∃ fn c, C.P.funcs[k]? = some fn ∧ fn.body = some c ∧ ∀ (E : Env) (args : List Value), E.h = h → Good C.G I B0 E → Rels E vs args → ∀ Q : Exit → Act → World → Prop,
      (∀ x a' w', (x = .normal ∨ x = .ret) → (C.dfr k = true ∨ a'.defers = []) → Leaves C.P fn a'.tmps (CallPost C.G I B0 E v h') a'.defers .returning w' → Q x a' w') →
      c.wp C.P Q { tmps := args.toArray ++ Array.replicate (fn.ntmps - args.toArray.size) undef, defers := [] } E.w := by
  simp only [call] at hx
  rw [hok, hhp, hp] at hx
  simp only [Bool.not_true, cond_false] at hx
  cases hfn : C.P.funcs[k]? with
  | none => rw [hfn] at hx; cases hx
  | some fn =>
    rw [hfn] at hx
    simp only at hx
    cases hb : fn.body with
    | none => rw [hb] at hx; cases hx
    | some c =>
      rw [hb] at hx
      simp only at hx
      refine ⟨fn, c, rfl, hb, fun E args hE H hargs Q hQ => ?_⟩
      have H1 := fresh_good H S0.pureG
      have hargs1 := Rels.cut (cut_in (E := E)) vs args hargs
      have hcode := S0.codes k fn c hok hhp hp hfn hb
      have hsz : fn.ntmps ≤ (args.toArray ++ Array.replicate (fn.ntmps - args.toArray.size) undef).size := by simp; omega
      cases hh : C.heap k with
      | true =>
        rw [hh] at hx
        simp only at hx
        cases draw with
        | true => cases hx
        | false =>
          simp only [cond_false] at hx
          cases he : exec C k n c (frame0 C k vs) h with
          | error e => rw [he] at hx; cases hx
          | ok r =>
            obtain ⟨x, F', h1⟩ := r
            rw [he] at hx
            have fin : (x = .ret ∨ x = .normal) → (match finish C (call C false n) k fn F' h1 with | some (v, h1) => Except.ok (stripR h.length h1 v, (h1.take h.length).map (stripB h.length h1)) | none => .error [k, 1013]) = (.ok (v, h') : Except (List Nat) (AV × Hp)) →
                c.wp C.P Q { tmps := args.toArray ++ Array.replicate (fn.ntmps - args.toArray.size) undef, defers := [] } E.w := by
              intro hx0 hx1
              cases hres : finish C (call C false n) k fn F' h1 with
              | none => rw [hres] at hx1; cases hx1
              | some u2 =>
                obtain ⟨u, h2⟩ := u2
                rw [hres] at hx1
                simp only [Except.ok.injEq, Prod.mk.injEq] at hx1
                obtain ⟨rfl, rfl⟩ := hx1
                refine ihn k c _ _ x F' h1 fn.ntmps he hcode E _ hE H (frame0_ok hargs k fn.ntmps) hsz _ fun E' a' S hE' hf' _ hd => ?_
                refine hQ _ a' E'.w (by rcases hx0 with rfl | rfl <;> simp [toExit]) hd (finish_ok hD (by rw [hE']; exact hres) S.good hf' hd fun E2 cv S2 hE2 hr => ?_)
                have S3 := S.trans S2
                obtain ⟨K, S'⟩ := step_keep H S3 S0.pureG
                have hr := Rel.cutR K u cv hr
                rw [hE2, hE] at hr
                rw [hE2, hE] at S'
                exact ⟨cv, { E2 with h := (h2.take h.length).map (stripB h.length h2) }, rfl, rfl, S', rfl, hr⟩
            cases x with
            | ret => exact fin (.inl rfl) hx
            | normal => exact fin (.inr rfl) hx
            | exit _ => cases hx
            | goto _ => cases hx
      | false =>
        rw [hh] at hx
        simp only at hx
        cases he : exec C k n c (frame0 C k (strips 0 [] vs)) [] with
        | error e => rw [he] at hx; cases hx
        | ok r =>
          obtain ⟨x, F', h1⟩ := r
          rw [he] at hx
          have fin : (x = .ret ∨ x = .normal) → (match finish C (call C false n) k fn F' h1 with | some (v, h1) => Except.ok (stripR 0 h1 v, h) | none => .error [k, 1013]) = (.ok (v, h') : Except (List Nat) (AV × Hp)) →
              c.wp C.P Q { tmps := args.toArray ++ Array.replicate (fn.ntmps - args.toArray.size) undef, defers := [] } E.w := by
            intro hx0 hx1
            cases hres : finish C (call C false n) k fn F' h1 with
            | none => rw [hres] at hx1; cases hx1
            | some u2 =>
              obtain ⟨u, h2⟩ := u2
              rw [hres] at hx1
              simp only [Except.ok.injEq, Prod.mk.injEq] at hx1
              obtain ⟨rfl, rfl⟩ := hx1
              refine ihn k c _ _ x F' h1 fn.ntmps he hcode (fresh E) _ rfl H1 (frame0_ok hargs1 k fn.ntmps) hsz _ fun E' a' S hE' hf' _ hd => ?_
              refine hQ _ a' E'.w (by rcases hx0 with rfl | rfl <;> simp [toExit]) hd (finish_ok hD (by rw [hE']; exact hres) S.good hf' hd fun E2 cv S2 hE2 hr => ?_)
              have S3 := S.trans S2
              have S' := step_below S0.hI H S3.below
              exact ⟨cv, { E with w := E2.w }, rfl, rfl, S', hE, Rel.cutR (cut_out H h2 S3.U (.inr ⟨hE2.symm, S3.good, S3.le.B⟩)) u cv hr⟩
          cases x with
          | ret => exact fin (.inl rfl) hx
          | normal => exact fin (.inr rfl) hx
          | exit _ => cases hx
          | goto _ => cases hx

theorem callD_ok (S0 : Sound C I B0) : ∀ {n : Nat}, (∀ m, m < n → ExecOk C I B0 m) → DOk C I B0 (call C false n)
  | 0, _ => fun k vs h v h' _ _ _ hx => by simp [call] at hx
  | n + 1, ih => fun k vs h v h' hhp hp hdf hx => by
    have hok : C.ok k = true := by
      cases hok : C.ok k with
      | true => rfl
      | false => simp [call, hok] at hx
    obtain ⟨fn, c, hfn, hb, hw⟩ := body_ok S0 (ih n (Nat.lt_succ_self n)) (callD_ok S0 fun m hm => ih m (Nat.lt_succ_of_lt hm)) hok hhp hp hx
    refine ⟨S0.fns k hok, fun E args hE H hargs u => callsD_of_wp hfn hb (hw E args hE H hargs _ fun x a' w' hx0 hd hl => ?_)⟩
    have hd0 := hd.resolve_left (by rw [hdf]; simp)
    rw [hd0] at hl
    obtain ⟨cv, k1, k2⟩ := hl
    rcases hx0 with rfl | rfl <;> exact ⟨hd0, cv, k1, k2⟩

theorem call_ok (S0 : Sound C I B0) {n : Nat} (ih : ∀ m, m < n → ExecOk C I B0 m) (draw : Bool) : ClOk C I B0 (call C draw n) := by
  refine ⟨S0.ident, ?_⟩
  intro k vs h v h' hx
  cases n with
  | zero => simp [call] at hx
  | succ n =>
    have hok : C.ok k = true := by
      cases hok : C.ok k with
      | true => rfl
      | false => simp [call, hok] at hx
    refine ⟨S0.fns k hok, fun E args hE H hargs => ?_⟩
    cases hhp : C.hprim k with
    | some g =>
      simp only [call] at hx
      rw [hok, hhp] at hx
      simp only [Bool.not_true, cond_false] at hx
      cases draw with
      | true => cases hx
      | false =>
        simp only [cond_false] at hx
        cases hg : g vs h with
        | none => rw [hg] at hx; cases hx
        | some r =>
          obtain ⟨v1, h1⟩ := r
          rw [hg] at hx
          simp only [Except.ok.injEq, Prod.mk.injEq] at hx
          obtain ⟨rfl, rfl⟩ := hx
          exact S0.hprims k g vs h v1 h1 hok hhp hg E args hE H hargs
    | none =>
      have H1 := fresh_good H S0.pureG
      have hargs1 := Rels.cut (cut_in (E := E)) vs args hargs
      cases hp : C.prim k with
      | some g =>
        simp only [call] at hx
        rw [hok, hhp, hp] at hx
        simp only [Bool.not_true, cond_false] at hx
        split at hx
        · rename_i u hg
          simp only [Except.ok.injEq, Prod.mk.injEq] at hx
          obtain ⟨rfl, rfl⟩ := hx
          refine (S0.prims k g _ _ hok hp hg (fresh E) args rfl rfl H1 hargs1).mono fun e w' hpost => ?_
          obtain ⟨c, rfl, hb, hr⟩ := hpost
          have S := step_below S0.hI H hb
          refine ⟨c, { E with w := w' }, rfl, rfl, S, hE, ?_⟩
          exact Rel.cut (cut_out H [] (E' := { fresh E with w := w' }) rfl (.inl rfl)) u c hr
        · cases hx
      | none =>
        obtain ⟨fn, c, hfn, hb, hw⟩ := body_ok S0 (ih n (Nat.lt_succ_self n)) (callD_ok S0 fun m hm => ih m (Nat.lt_succ_of_lt hm)) hok hhp hp hx
        refine calls_of_wp_defers hfn hb (hw E args hE H hargs _ fun x a' w' hx0 _ hl => ?_)
        rcases hx0 with rfl | rfl <;> exact hl

theorem call_blind (n : Nat) : Blind (call C true n) := by
  intro k vs h v h' hx
  cases n with
  | zero => simp [call] at hx
  | succ n =>
    simp only [call] at hx ⊢
    cases hok : C.ok k with
    | false => rw [hok] at hx; cases hx
    | true =>
      rw [hok] at hx
      simp only [Bool.not_true, cond_false] at hx ⊢
      cases hhp : C.hprim k with
      | some g => rw [hhp] at hx; cases hx
      | none =>
      rw [hhp] at hx
      simp only at hx ⊢
      cases hp : C.prim k with
      | some g =>
        rw [hp] at hx
        simp only at hx ⊢
        split at hx
        · simp_all
        · cases hx
      | none =>
        rw [hp] at hx
        simp only at hx ⊢
        cases hfn : C.P.funcs[k]? with
        | none => rw [hfn] at hx; cases hx
        | some fn =>
          rw [hfn] at hx
          simp only at hx ⊢
          cases hb : fn.body with
          | none => rw [hb] at hx; cases hx
          | some c =>
            rw [hb] at hx
            simp only at hx ⊢
            cases hh : C.heap k with
            | true => rw [hh] at hx; cases hx
            | false =>
              rw [hh] at hx
              simp only at hx ⊢
              cases he : exec C k n c (frame0 C k (strips 0 [] vs)) [] with
              | error e => rw [he] at hx; cases hx
              | ok r =>
                obtain ⟨x, F', h1⟩ := r
                rw [he] at hx
                cases x <;> simp only at hx ⊢
                all_goals first
                  | (cases hres : finish C (call C false n) k fn F' h1 with
                     | none => rw [hres] at hx; cases hx
                     | some u =>
                       rw [hres] at hx
                       simp only [Except.ok.injEq, Prod.mk.injEq] at hx ⊢
                       exact ⟨hx.2.symm, fun _ => ⟨hx.1, trivial⟩⟩)
                  | cases hx

theorem all_ok (S0 : Sound C I B0) : ∀ n, ExecOk C I B0 n := by
  intro n
  induction n using Nat.strongRecOn with
  | _ n ih => exact exec_ok S0 ih (fun m draw hm => call_ok S0 (fun k hk => ih k (Nat.lt_trans hk hm)) draw) fun m _ => call_blind m

theorem calls_ok (S0 : Sound C I B0) (draw : Bool) (n : Nat) : ClOk C I B0 (call C draw n) := call_ok S0 (fun m _ => all_ok S0 m) draw

end
end Go.Ai
