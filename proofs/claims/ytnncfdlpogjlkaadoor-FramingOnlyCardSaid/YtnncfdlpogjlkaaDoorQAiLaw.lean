/-
  From a contract to a row: arguments as they are read, the call in a world, the arguments behind it. No statement about the program is made here.
-/
import Derived.Test.YtnncfdlpogjlkaaDoorQAiOpen
import Derived.Test.YtnncfdlpogjlkaaDoorQAiPrims3
import Derived.Test.YtnncfdlpogjlkaaDoorQAiPrims4
import Derived.Test.YtnncfdlpogjlkaaDoorQAiMono
import Derived.WideKeyArgs
namespace Go.Ai
set_option linter.unusedVariables false
set_option linter.unusedSimpArgs false
set_option linter.unnecessarySimpa false
open Go.RowKit Go.ChangeShapes Go.WideShapes

theorem pures_append : ∀ {a b : List AV}, pureV.pureVs (a ++ b) = (pureV.pureVs a && pureV.pureVs b)
  | [], b => by simp [pureV.pureVs]
  | x :: r, b => by simp only [List.cons_append, pureV.pureVs, pures_append (a := r), Bool.and_assoc]

theorem pures_flatten : ∀ {l : List (List AV)}, (∀ x ∈ l, pureV.pureVs x = true) → pureV.pureVs l.flatten = true
  | [], _ => rfl
  | x :: r, h => by
    rw [List.flatten_cons, pures_append, h x (by simp), pures_flatten fun y hy => h y (by simp [hy])]
    rfl
theorem puress_mem : ∀ {l : List (List AV)}, (∀ x ∈ l, pureV.pureVs x = true) → pureV.pureVss l = true
  | [], _ => rfl
  | x :: r, h => by
    rw [pureV.pureVss, h x (by simp), puress_mem fun y hy => h y (by simp [hy])]
    rfl
theorem all2_mem {α β : Type} {q : α → β → Prop} : ∀ {l : List α} {m : List β}, all2 q l m → ∀ b ∈ m, ∃ a ∈ l, q a b
  | [], [], _, b, hb => by cases hb
  | [], _ :: _, h, _, _ => h.elim
  | _ :: _, [], h, _, _ => h.elim
  | a :: l, c :: m, h, b, hb => by
    rcases List.mem_cons.1 hb with rfl | hb
    · exact ⟨a, by simp, h.1⟩
    · obtain ⟨x, hx, hq⟩ := all2_mem h.2 b hb
      exact ⟨x, by simp [hx], hq⟩

theorem wt_pure {P : Program} : ∀ {n : Nat} {t : TypeId} {xs : List AV}, wt P n t xs → pureV.pureVs xs = true
  | 0, _, _, h => h.elim
  | n + 1, t, xs, h => by
    simp only [wt] at h
    split at h
    · obtain ⟨b, rfl⟩ := h; rfl
    · obtain ⟨z, _, rfl⟩ := h; rfl
    · obtain ⟨s, _, rfl⟩ := h; rfl
    · obtain ⟨es, _, rfl, hm⟩ := h
      simp only [pureV.pureVs, pureV, Option.isNone_none, Bool.true_and, Bool.and_true]
      exact puress_mem fun x hx => wt_pure (hm x hx)
    · obtain ⟨yss, hm, rfl⟩ := h
      refine pures_flatten fun x hx => ?_
      obtain ⟨f, _, hf⟩ := all2_mem hm x hx
      exact wt_pure hf
    · obtain ⟨yss, _, hm, rfl⟩ := h
      exact pures_flatten fun x hx => wt_pure (hm x hx)
    · exact h.elim

/-- An argument's form. -/
def argOf (P : Program) (n : Nat) (t : TypeId) (v : AV) : Prop := match isAggT P t with
  | true => ∃ xs, v = .agg xs ∧ wt P n t xs
  | false => wt P n t [v]

theorem argOf_pure {P : Program} {n : Nat} {t : TypeId} {v : AV} (h : argOf P n t v) : pureV v = true := by
  unfold argOf at h
  split at h
  · obtain ⟨xs, rfl, h⟩ := h
    rw [pureV]; exact wt_pure h
  · have := wt_pure h
    simpa [pureV.pureVs] using this

section
variable {H : Type} {enc : TypeId × Value → H} {P : Program} {w : World}

theorem arg_open {S : List TypeId} (hS : closedT P S S = true) {t : TypeId} (ht : inS S t = true) {r : Reach} {b0 : Nat} {v : Value} {d : DataW H} {ps : List MemPlace} {sp : Nat → Bool} {held : Bool} (hval : Value.okWide P w r b0 t v) (h : DataW.Trod enc P w 0 sp held t v d ps) :
    ∃ n x, argOf P n t x ∧ Rel (start w) x v := by
  obtain ⟨n, xs, hw, hr⟩ := Trod_wt hS ht h
  have hc := closedT_at hS ht
  cases ha : isAggT P t with
  | true =>
    refine ⟨n, .agg xs, by unfold argOf; rw [ha]; exact ⟨xs, rfl, hw⟩, ?_⟩
    have : ∃ cs, v = .agg cs := by
      unfold isAggT at ha
      unfold Value.okWide at hval
      split at ha
      · rename_i fs hu; rw [hu] at hval; obtain ⟨cs, h, _⟩ := hval; exact ⟨cs, h⟩
      · rename_i m e hu; rw [hu] at hval; obtain ⟨cs, h, _⟩ := hval; exact ⟨cs, h⟩
      · cases ha
    obtain ⟨cs, rfl⟩ := this
    exact ⟨cs, rfl, hr⟩
  | false =>
    have hone : ∃ x, xs = [x] := by
      cases n with
      | zero => exact hw.elim
      | succ n =>
        simp only [wt] at hw
        unfold isAggT at ha
        split at hw
        · obtain ⟨b, rfl⟩ := hw; exact ⟨_, rfl⟩
        · obtain ⟨z, _, rfl⟩ := hw; exact ⟨_, rfl⟩
        · obtain ⟨s, _, rfl⟩ := hw; exact ⟨_, rfl⟩
        · obtain ⟨es, _, rfl, _⟩ := hw; exact ⟨_, rfl⟩
        · rename_i hu; rw [hu] at ha; cases ha
        · rename_i hu; rw [hu] at ha; cases ha
        · exact hw.elim
    obtain ⟨x, rfl⟩ := hone
    refine ⟨n, x, by unfold argOf; rw [ha]; exact hw, ?_⟩
    have hcell : v.cells.toList = [v] := by
      unfold isAggT at ha
      unfold Value.okWide at hval
      split at hc
      · rename_i hu
        simp only [hu, Cell.okWide] at hval
        cases v <;> simp_all [Cell.ok, Value.cells]
      · rename_i hu
        simp only [hu, Cell.okWide] at hval
        cases v <;> simp_all [Cell.ok, Value.cells]
      · rename_i hu
        simp only [hu, Cell.okWide] at hval
        cases v <;> simp_all [Cell.ok, Value.cells]
      · rename_i hu
        simp only [hu, Cell.okWide] at hval
        cases v <;> simp_all [Cell.ok, Value.cells]
      · rename_i hu; rw [hu] at ha; cases ha
      · rename_i hu; rw [hu] at ha; cases ha
      · cases hc
    rw [hcell] at hr
    obtain ⟨u, r, he, _, h2, h3⟩ := hr
    injection he with he _
    subst he
    exact h2

def forms (P : Program) (ts : List TypeId) (vs : List AV) : Prop := all2 (fun t v => ∃ n, argOf P n t v) ts vs

theorem args_open {S : List TypeId} (hS : closedT P S S = true) {r : Reach} {b0 : Nat} {sp : Nat → Bool} {held : Bool} : ∀ {ts : List TypeId} {args : List Value} {ds : List (DataW H)} {ps : List MemPlace}, (∀ t ∈ ts, inS S t = true) →
    (∀ (j : Nat) t v, ts[j]? = some t → args[j]? = some v → Value.okWide P w r b0 t v) → DataW.TrodAll enc P w 0 sp held ts args ds ps → ∃ vs, forms P ts vs ∧ Rels (start w) vs args
  | [], args, ds, ps, _, _, h => by
    obtain ⟨rfl, _, _⟩ := trodAll_nil h
    exact ⟨[], trivial, rfl⟩
  | t :: ts, args, ds, ps, hin, hval, h => by
    obtain ⟨v, vs', d, ds', p, q, rfl, rfl, rfl, h1, h2⟩ := trodAll_cons h
    obtain ⟨n, x, k1, k2⟩ := arg_open hS (hin t (by simp)) (hval 0 t v rfl rfl) h1
    obtain ⟨xs, k3, k4⟩ := args_open hS (fun u hu => hin u (by simp [hu])) (fun j u z hj hz => hval (j + 1) u z (by simpa using hj) (by simpa using hz)) h2
    exact ⟨x :: xs, ⟨⟨n, k1⟩, k3⟩, v, vs', rfl, k2, k4⟩

theorem args_stay (hl : laidOutB P = true) {W W' : World} {sp : Nat → Bool} : ∀ {ts : List TypeId} {args : List Value} {ds : List (DataW H)} {ps : List MemPlace}, (∀ t ∈ ts, P.readableRec t = true ∧ t < P.types.size) →
    DataW.TrodAll enc P W 0 (fun _ => true) true ts args ds ps → (∀ p ∈ ps, W.sameAt W' p) → (∀ p ∈ ps, sp p.block = true) → DataW.TrodAll enc P W' 0 sp true ts args ds ps
  | [], args, ds, ps, _, h, _, _ => by
    obtain ⟨rfl, rfl, rfl⟩ := trodAll_nil h
    exact trodAll_mk0
  | t :: ts, args, ds, ps, hr, h, hs, hp => by
    obtain ⟨v, vs', d, ds', p, q, rfl, rfl, rfl, h1, h2⟩ := trodAll_cons h
    obtain ⟨r1, r2⟩ := hr t (by simp)
    exact ⟨p, q, WideElems.Trod_stays hl r1 r2 h1 (fun x hx => hs x (by simp [hx])) (fun x hx => hp x (by simp [hx])),
      args_stay hl (fun u hu => hr u (by simp [hu])) h2 (fun x hx => hs x (by simp [hx])) (fun x hx => hp x (by simp [hx])), rfl⟩
end

section
variable {C : Cfg} {I : World → Prop} {B0 : Nat}

/-- A law's contract: whatever arguments of its forms it is handed, it answers true. -/
def lawC (P : Program) (ts : List TypeId) : Con := fun vs h K => forms P ts vs ∧ K (.bool true) h

theorem forms_pure {P : Program} : ∀ {ts : List TypeId} {vs : List AV}, forms P ts vs → pureV.pureVs vs = true
  | [], [], _ => rfl
  | [], _ :: _, h => h.elim
  | _ :: _, [], h => h.elim
  | t :: ts, v :: vs, h => by
    obtain ⟨n, h1⟩ := h.1
    rw [pureV.pureVs, argOf_pure h1, forms_pure h.2]
    rfl

theorem law_walk (S : Sound C I B0) {k : Nat} {ts : List TypeId} (hc : COk C k (lawC C.P ts)) (hk : C.hprim k = none) (hh : C.heap k = false) {W : World} {vs : List AV} {args : List Value} (hI : I W) (hB : B0 ≤ W.heap.size)
    (glob : ∀ g cs, C.G g = some cs → At (start W) cs ⟨g, 0, none⟩) (hf : forms C.P ts vs) (hargs : Rels (start W) vs args) :
    Calls C.P k args.toArray W (fun e w' => e = .returned (.bool true) ∧ Below W.heap.size W w') := by
  have ha : argsOf C k vs = vs := by
    simp [argsOf, hk, hh, strips_pure 0 [] vs (forms_pure hf)]
  obtain ⟨v, h', ⟨n0, hr⟩, hv⟩ := hc vs [] (fun v h' => v = .bool true) (by rw [ha]; exact ⟨hf, rfl⟩)
  subst hv
  exact run_true S (n := n0) (by rw [hr n0 (Nat.le_refl _)]; rfl) hI hB glob hargs
end
end Go.Ai
