/-
  More fuel changes no answer of the evaluator. No statement about the program is made here.
-/
import Derived.Test.YtnncfdlpogjlkaaDoorQAiCtr
namespace Go.Ai
set_option linter.unusedVariables false
set_option linter.unusedSimpArgs false
set_option linter.unnecessarySimpa false
open Go.RowKit

section
variable {C : Cfg}

theorem stepGo_mono {cl cl' : FuncId → List AV → Hp → Except (List Nat) (AV × Hp)} (hc : ∀ k l h r, cl k l h = .ok r → cl' k l h = .ok r) {draw : Bool} {o : Oper} {F : Fr} {h : Hp} {r : (Bool × AV) × Hp}
    (hx : stepGo C cl draw o F h = .ok r) : stepGo C cl' draw o F h = .ok r := by
  unfold stepGo at hx
  split at hx
  · rename_i x args ts hop
    split at hx
    · rename_i k first cap vs hx1 hvs
      split at hx
      · rename_i v hid hl
        simp only [stepGo, hop, hx1, hvs, hid, hl]
        exact hx
      · cases hx
      · rename_i hid
        cases hcl : cl k (first ++ vs ++ cap) h with
        | error e => rw [hcl] at hx; cases hx
        | ok p =>
          rw [hcl] at hx
          simp only [stepGo, hop, hx1, hvs, hid, hc _ _ _ _ hcl]
          exact hx
    · cases hx
  · rename_i x args ts hop
    simp only [stepGo, hop]
    exact hx
  · rename_i hop hop2
    unfold stepGo
    split
    · rename_i x args ts hop'
      exact (hop x args ts hop').elim
    · rename_i x args ts hop'
      exact (hop2 x args ts hop').elim
    · exact hx

theorem execOps_mono {cl cl' : FuncId → List AV → Hp → Except (List Nat) (AV × Hp)} (hc : ∀ k l h r, cl k l h = .ok r → cl' k l h = .ok r) {ops : Array Oper} {draw : Bool} : ∀ (os : List Oper) {F : Fr} {h : Hp} {r : Fr × Hp},
    execOps C cl ops draw os F h = .ok r → execOps C cl' ops draw os F h = .ok r
  | [], F, h, r, hx => hx
  | o :: os, F, h, r, hx => by
    simp only [execOps] at hx ⊢
    cases hs : stepOp C cl ops draw o F h with
    | error e => rw [hs] at hx; cases hx
    | ok p =>
      obtain ⟨e, h'⟩ := p
      rw [hs] at hx
      have : stepOp C cl' ops draw o F h = .ok (e, h') := by
        unfold stepOp at hs
        cases hg : guardOf ops F o with
        | none => rw [hg] at hs; cases hs
        | some b =>
          rw [hg] at hs
          cases b with
          | false => simp only [stepOp, hg]; exact hs
          | true => simp only [stepOp, hg]; exact stepGo_mono hc hs
      rw [this]
      exact execOps_mono hc os hx

theorem execReg_mono {cl cl' : Bool → FuncId → List AV → Hp → Except (List Nat) (AV × Hp)} (hc : ∀ d k l h r, cl d k l h = .ok r → cl' d k l h = .ok r) {ops : Array Oper} {draw : Bool} : ∀ (os : List Oper) {i : Nat} {F : Fr} {h : Hp} {r : Fr × Hp},
    execReg C cl ops draw i os F h = .ok r → execReg C cl' ops draw i os F h = .ok r
  | [], i, F, h, r, hx => hx
  | o :: os, i, F, h, r, hx => by
    simp only [execReg] at hx ⊢
    cases hs : stepOp C (cl (drawI C ops draw i)) ops (drawI C ops draw i) o F h with
    | error e => rw [hs] at hx; cases hx
    | ok p =>
      obtain ⟨e, h'⟩ := p
      rw [hs] at hx
      have : stepOp C (cl' (drawI C ops draw i)) ops (drawI C ops draw i) o F h = .ok (e, h') := by
        unfold stepOp at hs
        cases hg : guardOf ops F o with
        | none => rw [hg] at hs; cases hs
        | some b =>
          rw [hg] at hs
          cases b with
          | false => simp only [stepOp, hg]; exact hs
          | true => simp only [stepOp, hg]; exact stepGo_mono (hc _) hs
      rw [this]
      exact execReg_mono hc os hx
theorem runD_mono {cl cl' : FuncId → List AV → Hp → Except (List Nat) (AV × Hp)} (hc : ∀ k l h r, cl k l h = .ok r → cl' k l h = .ok r) : ∀ (l : List AV) {h h' : Hp}, runD C cl l h = some h' → runD C cl' l h = some h'
  | [], h, h', hx => hx
  | v :: l, h, h', hx => by
    cases v with
    | fn f first cap =>
      cases f with
      | func k =>
        simp only [runD] at hx
        split at hx
        · rename_i v1 h1 hg hcl
          simp only [runD, hg, hc _ _ _ _ hcl]
          exact runD_mono hc l hx
        · cases hx
      | _ => simp [runD] at hx
    | _ => simp [runD] at hx
theorem finish_mono {cl cl' : FuncId → List AV → Hp → Except (List Nat) (AV × Hp)} (hc : ∀ k l h r, cl k l h = .ok r → cl' k l h = .ok r) {k : FuncId} {fn : Func} {F : Fr} {h : Hp} {r : AV × Hp} (hx : finish C cl k fn F h = some r) : finish C cl' k fn F h = some r := by
  unfold finish at hx ⊢
  split at hx
  · rename_i hd
    exact hx
  · rename_i hd
    split at hx
    · rename_i b l hl
      split at hx
      · rename_i h2 hr
        rw [runD_mono hc _ hr]
        exact hx
      · cases hx
    · cases hx

theorem fuel_mono : ∀ n, (∀ f c F h r, exec C f n c F h = .ok r → exec C f (n + 1) c F h = .ok r) ∧ (∀ f c cur F h r, scopeGo C f n c cur F h = .ok r → scopeGo C f (n + 1) c cur F h = .ok r) ∧
    (∀ draw k vs h r, call C draw n k vs h = .ok r → call C draw (n + 1) k vs h = .ok r)
  | 0 => ⟨fun f c F h r hx => by simp [exec] at hx, fun f c cur F h r hx => by simp [scopeGo] at hx, fun draw k vs h r hx => by simp [call] at hx⟩
  | n + 1 => by
    obtain ⟨ih1, ih2, ih3⟩ := fuel_mono n
    refine ⟨fun f c F h r hx => ?_, fun f c cur F h r hx => ?_, fun draw k vs h r hx => ?_⟩
    · cases c with
      | seq a b =>
        rw [exec] at hx ⊢
        cases ha : exec C f n a F h with
        | error e => rw [ha] at hx; cases hx
        | ok p =>
          obtain ⟨x, F1, h1⟩ := p
          rw [ha] at hx
          rw [ih1 _ _ _ _ _ ha]
          cases x with
          | normal => exact ih1 _ _ _ _ _ hx
          | _ => exact hx
      | cond y a b =>
        rw [exec] at hx
        split at hx
        · rename_i hy; simp only [exec, hy]; exact ih1 _ _ _ _ _ hx
        · rename_i hy; simp only [exec, hy]; exact ih1 _ _ _ _ _ hx
        · cases hx
      | block id a =>
        rw [exec] at hx ⊢
        cases ha : exec C f n a F h with
        | error e => rw [ha] at hx; cases hx
        | ok p =>
          obtain ⟨x, F1, h1⟩ := p
          rw [ha] at hx
          rw [ih1 _ _ _ _ _ ha]
          exact hx
      | loop a =>
        rw [exec] at hx ⊢
        cases ha : exec C f n a F h with
        | error e => rw [ha] at hx; cases hx
        | ok p =>
          obtain ⟨x, F1, h1⟩ := p
          rw [ha] at hx
          rw [ih1 _ _ _ _ _ ha]
          cases x with
          | normal =>
            simp only at hx ⊢
            cases ht : C.trunc f with
            | true => rw [ht] at hx; exact ih1 _ _ _ _ _ hx
            | false => rw [ht] at hx; exact ih1 _ _ _ _ _ hx
          | _ => exact hx
      | scope a =>
        rw [exec] at hx ⊢
        exact ih2 _ _ _ _ _ _ hx
      | region id ops draw =>
        rw [exec] at hx ⊢
        split at hx
        · cases hx
        cases ha : execReg C (fun d => call C d n) ops draw 0 ops.toList ((C.live f id).map fun s => (s, lk F s)) h with
        | error e => rw [ha] at hx; cases hx
        | ok p =>
          obtain ⟨F1, h1⟩ := p
          rw [ha] at hx
          rw [execReg_mono (fun d k l h r hk => ih3 d k l h r hk) _ ha]
          exact hx
      | _ => simpa only [exec] using hx
    · rw [scopeGo] at hx ⊢
      cases ha : exec C f n cur F h with
      | error e => rw [ha] at hx; cases hx
      | ok p =>
        obtain ⟨x, F1, h1⟩ := p
        rw [ha] at hx
        rw [ih1 _ _ _ _ _ ha]
        cases x with
        | goto l =>
          simp only at hx ⊢
          cases hf : findLabel c l with
          | none => rw [hf] at hx; exact hx
          | some rest => rw [hf] at hx; exact ih2 _ _ _ _ _ _ hx
        | _ => exact hx
    · rw [call] at hx ⊢
      cases hok : C.ok k with
      | false => rw [hok] at hx; cases hx
      | true =>
        rw [hok] at hx
        simp only [Bool.not_true, cond_false] at hx ⊢
        split at hx
        · exact hx
        · split at hx
          · exact hx
          · split at hx
            · cases hx
            · rename_i fn hf
              split at hx
              · cases hx
              · rename_i c hb
                split at hx
                · rename_i hh
                  cases draw with
                  | true => cases hx
                  | false =>
                    simp only [cond_false] at hx ⊢
                    cases ha : exec C k n c (frame0 C k vs) h with
                    | error e => rw [ha] at hx; cases hx
                    | ok p =>
                      rw [ha] at hx
                      rw [ih1 _ _ _ _ _ ha]
                      obtain ⟨x, F1, h1⟩ := p
                      cases x <;> simp only at hx ⊢
                      all_goals first
                        | (cases hfi : finish C (call C false n) k fn F1 h1 with
                           | none => rw [hfi] at hx; cases hx
                           | some u =>
                             rw [hfi] at hx
                             rw [finish_mono (fun k l h r hk => ih3 false k l h r hk) hfi]
                             exact hx)
                        | cases hx
                · rename_i hh
                  cases ha : exec C k n c (frame0 C k (strips 0 [] vs)) [] with
                  | error e => rw [ha] at hx; cases hx
                  | ok p =>
                    rw [ha] at hx
                    rw [ih1 _ _ _ _ _ ha]
                    obtain ⟨x, F1, h1⟩ := p
                    cases x <;> simp only at hx ⊢
                    all_goals first
                      | (cases hfi : finish C (call C false n) k fn F1 h1 with
                         | none => rw [hfi] at hx; cases hx
                         | some u =>
                           rw [hfi] at hx
                           rw [finish_mono (fun k l h r hk => ih3 false k l h r hk) hfi]
                           exact hx)
                      | cases hx

theorem call_mono {draw : Bool} {n : Nat} {k : FuncId} {vs : List AV} {h : Hp} {r : AV × Hp} (hx : call C draw n k vs h = .ok r) : ∀ m, n ≤ m → call C draw m k vs h = .ok r := by
  intro m hm
  induction m with
  | zero =>
    obtain rfl : n = 0 := by omega
    exact hx
  | succ m ih =>
    by_cases h1 : n ≤ m
    · exact (fuel_mono m).2.2 _ _ _ _ _ (ih h1)
    · obtain rfl : n = m + 1 := by omega
      exact hx

/-- A call without arguments that the kernel has run. -/
theorem callR_run {n : Nat} {k : FuncId} (hx : isTrue (call C false n k [] []) = true) : ∃ h', CallR C false k [] [] (.bool true) h' := by
  unfold isTrue at hx
  split at hx
  · rename_i h' hc
    exact ⟨h', n, fun m hm => call_mono hc m hm⟩
  · cases hx

/-- A closed test that the kernel has run: whatever the caller's memory. -/
theorem cok_true {n : Nat} {k : FuncId} {fn : Func} (hp : pureFn C k fn) (hx : isTrue (call C false n k [] []) = true) : COk C k (fun vs h K => vs.isEmpty = true ∧ K (.bool true) h) := by
  intro l h K ht
  obtain ⟨ha, hk⟩ := ht
  obtain ⟨h1, h2, h3, h4, h5, h6⟩ := hp
  have hl : l = [] := by
    have : argsOf C k l = strips 0 [] l := by simp [argsOf, h2, h6]
    rw [this] at ha
    cases l with
    | nil => rfl
    | cons a r => simp [strips] at ha
  subst hl
  obtain ⟨h', n0, hc⟩ := callR_run hx
  refine ⟨_, h, ⟨n0 + 1, fun m hm => ?_⟩, hk⟩
  have := hc m (by omega)
  obtain ⟨m, rfl⟩ : ∃ j, m = j + 1 := ⟨m - 1, by omega⟩
  rw [call] at this ⊢
  simp only [Bool.and_eq_true] at h1
  simp only [h1.1, h2, h3, h4, body_some h5, h6, Bool.not_true, cond_false] at this ⊢
  cases he : exec C k m (bodyOf fn) (frame0 C k (strips 0 [] [])) [] with
  | error e => rw [he] at this; cases this
  | ok p =>
    obtain ⟨x, F1, h1'⟩ := p
    rw [he] at this
    cases x with
    | ret =>
      simp only at this ⊢
      cases hu : finish C (call C false m) k fn F1 h1' with
      | none => rw [hu] at this; cases this
      | some u =>
        obtain ⟨u, h2'⟩ := u
        rw [hu] at this
        injection this with this
        injection this with this _
        simp only [this]
    | normal =>
      simp only at this ⊢
      cases hu : finish C (call C false m) k fn F1 h1' with
      | none => rw [hu] at this; cases this
      | some u =>
        obtain ⟨u, h2'⟩ := u
        rw [hu] at this
        injection this with this
        injection this with this _
        simp only [this]
    | _ => cases this
end
end Go.Ai
