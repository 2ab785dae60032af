/-
  What a row reads at plain types, as abstract values of a known form. No statement about the program is made here.
-/
import Derived.Test.YtnncfdlpogjlkaaDoorQAiData
namespace Go.Ai
set_option linter.unusedVariables false
set_option linter.unusedSimpArgs false
set_option linter.unnecessarySimpa false
open Go.RowKit

def all2 {α β : Type} (q : α → β → Prop) : List α → List β → Prop
  | [], [] => True
  | a :: l, b :: m => q a b ∧ all2 q l m
  | _, _ => False

/-- The forms of what lies at a type: integers, strings, bools, slices, structs, arrays. -/
def wt (P : Program) : Nat → TypeId → List AV → Prop
  | 0, _, _ => False
  | n + 1, t, xs =>
    match P.underlying t with
    | some .bool => ∃ b, xs = [.bool b]
    | some (.int k) => ∃ z, (Lit.int k z).wf = true ∧ xs = [.int k z]
    | some .string => ∃ s : List UInt8, s.length ≤ maxLen ∧ xs = [.str s]
    | some (.slice e) => ∃ es, es.length ≤ maxLen ∧ xs = [.sl (P.cellsOf e) es none] ∧ ∀ x ∈ es, wt P n e x
    | some (.struct fs) => ∃ yss : List (List AV), all2 (fun f ys => wt P n f.type ys) fs.toList yss ∧ xs = yss.flatten
    | some (.array m e) => ∃ yss : List (List AV), yss.length = m ∧ (∀ ys ∈ yss, wt P n e ys) ∧ xs = yss.flatten
    | _ => False

def inS : List Nat → Nat → Bool
  | [], _ => false
  | s :: r, t => Nat.beq s t || inS r t

/-- A set of plain types that holds the types of all parts. -/
def closedT (P : Program) (S : List TypeId) : List TypeId → Bool
  | [] => true
  | t :: r => (match P.underlying t with
    | some .bool | some (.int _) | some .string => true
    | some (.slice e) => inS S e
    | some (.struct fs) => chain P fs.toList 0 (P.cellsOf t) && fs.toList.all fun f => inS S f.type
    | some (.array m e) => Nat.beq (m * P.cellsOf e) (P.cellsOf t) && inS S e
    | _ => false) && closedT P S r

theorem closedT_at {P : Program} {S : List TypeId} : ∀ {l : List TypeId} {t : TypeId}, closedT P S l = true → inS l t = true →
    (match P.underlying t with
    | some .bool | some (.int _) | some .string => true
    | some (.slice e) => inS S e
    | some (.struct fs) => chain P fs.toList 0 (P.cellsOf t) && fs.toList.all fun f => inS S f.type
    | some (.array m e) => Nat.beq (m * P.cellsOf e) (P.cellsOf t) && inS S e
    | _ => false) = true
  | [], t, _, h => by cases h
  | s :: r, t, hc, h => by
    simp only [closedT, Bool.and_eq_true] at hc
    simp only [inS, Bool.or_eq_true] at h
    rcases h with h | h
    · have := Nat.eq_of_beq_eq_true h
      subst this
      exact hc.1
    · exact closedT_at hc.2 h

theorem mapM_all {α β : Type} {f : α → Option β} {p : β → Prop} : ∀ {l : List α}, (∀ x ∈ l, ∃ y, f x = some y ∧ p y) → ∃ ys, l.mapM f = some ys ∧ ys.length = l.length ∧ ∀ y ∈ ys, p y
  | [], _ => ⟨[], rfl, rfl, fun y hy => by cases hy⟩
  | x :: l, h => by
    obtain ⟨y, h1, h2⟩ := h x (by simp)
    obtain ⟨ys, h3, h4, h5⟩ := mapM_all (l := l) fun z hz => h z (by simp [hz])
    refine ⟨y :: ys, by simp [h1, h3], by simp [h4], fun z hz => ?_⟩
    rcases List.mem_cons.1 hz with rfl | hz
    · exact h2
    · exact h5 z hz

theorem mapM_zip {α β γ : Type} {f : α × β → Option γ} {q : α → γ → Prop} : ∀ {l : List α} {m : List β}, l.length = m.length → (∀ (i : Nat) a b, l[i]? = some a → m[i]? = some b → ∃ y, f (a, b) = some y ∧ q a y) → ∃ ys, (l.zip m).mapM f = some ys ∧ all2 q l ys
  | [], [], _, _ => ⟨[], rfl, trivial⟩
  | [], _ :: _, h, _ => by simp at h
  | _ :: _, [], h, _ => by simp at h
  | a :: l, b :: m, h, hf => by
    obtain ⟨y, h1, h2⟩ := hf 0 a b rfl rfl
    obtain ⟨ys, h3, h4⟩ := mapM_zip (f := f) (q := q) (l := l) (m := m) (by simpa using h) fun i a' b' ha hb => hf (i + 1) a' b' (by simpa using ha) (by simpa using hb)
    exact ⟨y :: ys, by simp [h1, h3], h2, h4⟩

section
variable {H : Type} {enc : TypeId × Value → H} {P : Program} {w : World}

theorem trod_wt {S : List TypeId} (hS : closedT P S S = true) : ∀ (fuel : Nat) (t : TypeId) (cs : List Value) (d : DataW H) (ps : List MemPlace) {base : Nat} {sp : Nat → Bool} {held : Bool},
    inS S t = true → DataW.trod enc P w base sp held fuel t cs = some (d, ps) → ∃ xs, absD P fuel t d = some xs ∧ wt P fuel t xs := by
  intro fuel
  induction fuel with
  | zero => intro t cs d ps base sp held _ h; simp [DataW.trod] at h
  | succ fuel ih =>
    intro t cs d ps base sp held ht h
    have hc := closedT_at hS ht
    split at hc
    · rename_i hu
      obtain ⟨b, rfl, h2⟩ := DataW.trod_bool hu h
      simp only [Prod.mk.injEq] at h2
      obtain ⟨rfl, -⟩ := h2
      exact ⟨[.bool b], by simp [absD, hu], by simp only [wt, hu]; exact ⟨b, rfl⟩⟩
    · rename_i k hu
      obtain ⟨z, rfl, h2, h3⟩ := DataW.trod_int hu h
      simp only [Prod.mk.injEq] at h2
      obtain ⟨rfl, -⟩ := h2
      exact ⟨[.int k z], by simp [absD, hu], by simp only [wt, hu]; exact ⟨z, h3, rfl⟩⟩
    · rename_i hu
      obtain ⟨s, rfl, h2, h3⟩ := DataW.trod_string hu h
      simp only [Prod.mk.injEq] at h2
      obtain ⟨rfl, -⟩ := h2
      exact ⟨[.str s.data.toList], by simp [absD, hu], by simp only [wt, hu]; exact ⟨_, by simpa using h3, rfl⟩⟩
    · rename_i e hu
      rcases DataW.trod_slice hu h with ⟨rfl, h2⟩ | ⟨a, len, cap, elems, rst, m, hm, rfl, h2, hba, hlc, hcm, hel, hread⟩
      · simp only [Prod.mk.injEq] at h2
        obtain ⟨rfl, -⟩ := h2
        exact ⟨[.sl (P.cellsOf e) [] none], by simp [absD, hu], by simp only [wt, hu]; exact ⟨[], by simp, rfl, fun x hx => by cases hx⟩⟩
      · simp only [Prod.mk.injEq] at h2
        obtain ⟨rfl, -⟩ := h2
        cases hm
        obtain ⟨es, k1, k2, k3⟩ := mapM_all (f := absD P fuel e) (p := wt P fuel e) (l := elems.map (·.1)) fun x hx => by
          obtain ⟨y, hy, rfl⟩ := List.mem_map.1 hx
          obtain ⟨i, hi⟩ := List.getElem?_of_mem hy
          have hil : i < elems.length := (List.getElem?_eq_some_iff.1 hi).1
          have hrd := hread.1 i (by omega)
          rw [hi] at hrd
          cases hcs : w.cells? base (a.add (i * P.cellsOf e)) (P.cellsOf e) with
          | none => rw [hcs] at hrd; cases hrd
          | some cs' =>
            rw [hcs] at hrd
            simp only [Option.bind_some] at hrd
            exact ih e cs' _ _ hc hrd
        refine ⟨[.sl (P.cellsOf e) es none], by simp only [absD, hu]; rw [k1]; rfl, ?_⟩
        simp only [wt, hu]
        exact ⟨es, by rw [k2]; simp; omega, rfl, k3⟩
    · rename_i fs hu
      rw [Bool.and_eq_true] at hc
      obtain ⟨ys, m, hm, h2, hcl, hyl, hread⟩ := DataW.trod_struct hu h
      cases hm
      simp only [Prod.mk.injEq] at h2
      obtain ⟨rfl, -⟩ := h2
      obtain ⟨yss, k1, k2⟩ := mapM_zip (f := fun x : Field × DataW H => absD P fuel x.1.type x.2) (q := fun f ys => wt P fuel f.type ys) (l := fs.toList) (m := ys.map (·.1)) (by simp [hyl]) fun i f b hf hb => by
        simp only [List.getElem?_map, Option.map_eq_some_iff] at hb
        obtain ⟨y, hy1, rfl⟩ := hb
        have hr := hread i f (by simpa using hf)
        rw [hy1] at hr
        have hin : inS S f.type = true := List.all_eq_true.1 hc.2 f (List.mem_of_getElem? hf)
        exact ih _ _ _ _ hin hr
      refine ⟨yss.flatten, ?_, ?_⟩
      · have hb : (chain P fs.toList 0 (P.cellsOf t) && Nat.beq (ys.map (·.1)).length fs.size) = true := by
          rw [hc.1, Bool.true_and]
          simp [hyl]
        simp only [absD, hu]
        rw [hb]
        simp only [cond_true]
        rw [k1]
        rfl
      · simp only [wt, hu]
        exact ⟨yss, k2, rfl⟩
    · rename_i m e hu
      rw [Bool.and_eq_true] at hc
      simp only [DataW.trod, hu] at h
      split at h
      case isFalse => cases h
      rename_i hcl
      cases hmm0 : (List.range m).mapM (fun i => DataW.trod enc P w base sp held fuel e ((cs.drop (i * P.cellsOf e)).take (P.cellsOf e))) with
      | none => rw [hmm0] at h; cases h
      | some ys =>
        rw [hmm0] at h
        simp only [Option.map_some, Option.some.injEq, Prod.mk.injEq] at h
        obtain ⟨rfl, -⟩ := h
        have hyl : ys.length = m := by simpa using Lib.mapM_length hmm0
        obtain ⟨es, k1, k2, k3⟩ := mapM_all (f := absD P fuel e) (p := wt P fuel e) (l := ys.map (·.1)) fun x hx => by
          obtain ⟨y, hy, rfl⟩ := List.mem_map.1 hx
          obtain ⟨i, hi⟩ := List.getElem?_of_mem hy
          obtain ⟨j, h1, h2⟩ := mapM_list hmm0 i y hi
          exact ih e _ _ _ hc.2 h2
        refine ⟨es.flatten, ?_, ?_⟩
        · have hb : (Nat.beq (m * P.cellsOf e) (P.cellsOf t) && Nat.beq (ys.map (·.1)).length m) = true := by
            rw [hc.1, Bool.true_and]
            simp [hyl]
          simp only [absD, hu]
          rw [hb]
          simp only [cond_true]
          rw [k1]
          rfl
        · simp only [wt, hu]
          exact ⟨es, by rw [k2]; simp [hyl], k3, rfl⟩
    · cases hc

/-- What is read at a plain type has a known form, and stands for what is there. -/
theorem Trod_wt {S : List TypeId} (hS : closedT P S S = true) {t : TypeId} (ht : inS S t = true) {v : Value} {d : DataW H} {ps : List MemPlace} {sp : Nat → Bool} {held : Bool} (h : DataW.Trod enc P w 0 sp held t v d ps) :
    ∃ n xs, wt P n t xs ∧ Rels1 (start w) xs v.cells.toList := by
  obtain ⟨fuel, h⟩ := h
  obtain ⟨xs, h1, h2⟩ := trod_wt hS fuel t _ d ps ht h
  exact ⟨fuel, xs, h2, trod_rel fuel fuel t _ d ps xs h h1⟩
end
end Go.Ai
