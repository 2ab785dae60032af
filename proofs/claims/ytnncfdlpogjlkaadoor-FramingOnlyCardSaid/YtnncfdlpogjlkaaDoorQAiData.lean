/-
  Data as a row reads it, as abstract values.
-/
import Derived.Test.YtnncfdlpogjlkaaDoorQAiBld
import Derived.Lib.LaidTab
namespace Go.Ai
set_option linter.unusedVariables false
set_option linter.unusedSimpArgs false
set_option linter.unnecessarySimpa false
open Go.RowKit

/-- Do the fields of a struct lie one behind the other, from one place to another? -/
def chain (P : Program) : List Field → Nat → Nat → Bool
  | [], a, b => Nat.beq a b
  | f :: fs, a, b => Nat.beq f.offset a && chain P fs (a + P.cellsOf f.type) b

/-- The abstract cells of what is read at a type. -/
def absD {H : Type} (P : Program) : Nat → TypeId → DataW H → Option (List AV)
  | 0, _, _ => none
  | n + 1, t, d =>
    match P.underlying t, d with
    | some .bool, .lit (.bool b) => some [.bool b]
    | some (.int _), .lit (.int k i) => some [.int k i]
    | some .string, .lit (.string l) => some [.str l]
    | some (.pointer _), .nil => some [.nilp]
    | some (.slice e), .nil => some [.sl (P.cellsOf e) [] none]
    | some (.slice e), .slice els _ => (els.mapM (absD P n e)).map fun es => [.sl (P.cellsOf e) es none]
    | some (.struct fs), .agg parts =>
      bif chain P fs.toList 0 (P.cellsOf t) && Nat.beq parts.length fs.size then ((fs.toList.zip parts).mapM fun x => absD P n x.1.type x.2).map List.flatten else none
    | some (.array m e), .agg parts =>
      bif Nat.beq (m * P.cellsOf e) (P.cellsOf t) && Nat.beq parts.length m then (parts.mapM (absD P n e)).map List.flatten else none
    | some (.interface _), .nil => some [.nili]
    | _, _ => none

theorem mapM_list {α β : Type} {f : α → Option β} : ∀ {l : List α} {r : List β}, l.mapM f = some r → ∀ (i : Nat) (b : β), r[i]? = some b → ∃ a, l[i]? = some a ∧ f a = some b := by
  intro l r h i b hb
  have hl := Lib.mapM_length h
  have hi : i < l.length := by rw [← hl]; exact (List.getElem?_eq_some_iff.1 hb).1
  obtain ⟨b', h1, h2⟩ := Lib.mapM_at h i _ (List.getElem?_eq_getElem hi)
  rw [hb] at h1
  injection h1 with h1
  subst h1
  exact ⟨_, List.getElem?_eq_getElem hi, h2⟩

theorem stable_start (w : World) (b o : Nat) : Stable (start w) b o := ⟨fun h => h, fun id x hx => by simp [start] at hx⟩

theorem cells?_spec {w : World} {base : Nat} {a : Addr} {n : Nat} {cs : List Value} (h : w.cells? base a n = some cs) : cs.length = n ∧ ∀ j v, cs[j]? = some v → w.cell? (a.add j) = some v := by
  unfold World.cells? at h
  split at h
  · refine ⟨by simpa using Lib.mapM_length h, fun j v hj => ?_⟩
    obtain ⟨i, h1, h2⟩ := mapM_list h j v hj
    have hlt : j < n := by
      have := (List.getElem?_eq_some_iff.1 h1).1
      simpa using this
    rw [List.getElem?_range hlt] at h1
    injection h1 with h1
    subst h1
    exact h2
  · cases h

section
variable {H : Type} {enc : TypeId × Value → H} {P : Program} {w : World}

theorem at_of_cells {base : Nat} {a : Addr} {n : Nat} {cs : List Value} {xs : List AV} (h : w.cells? base a n = some cs) (hr : Rels1 (start w) xs cs) : At (start w) xs a := by
  obtain ⟨h1, h2⟩ := cells?_spec h
  rw [Rels1.iff] at hr
  rw [At.iff]
  intro j c hj
  have hjl : j < cs.length := by rw [hr.1]; exact (List.getElem?_eq_some_iff.1 hj).1
  obtain ⟨q1, q2⟩ := hr.2 j c _ hj (List.getElem?_eq_getElem hjl)
  exact ⟨_, h2 j _ (List.getElem?_eq_getElem hjl), q1, stable_start w _ _, q2⟩

theorem rows_of_each {E : Env} {sz : Nat} : ∀ (es : List (List AV)) (a : Addr), (∀ (i : Nat) e, es[i]? = some e → e.length = sz ∧ At E e (a.add (i * sz))) → Rows E es a
  | [], _, _ => trivial
  | e :: es, a, h => by
    obtain ⟨h1, h2⟩ := h 0 e rfl
    refine ⟨by simpa [Addr.add] using h2, rows_of_each (sz := sz) es _ fun i e' hi => ?_⟩
    obtain ⟨k1, k2⟩ := h (i + 1) e' (by simpa using hi)
    refine ⟨k1, ?_⟩
    rw [add_add', h1, show sz + i * sz = (i + 1) * sz by rw [Nat.add_mul]; omega]
    exact k2

/-- Cells that are cut into fields one behind the other are these fields' cells. -/
theorem chain_flatten : ∀ (fs : List Field) (a b : Nat) (cs : List Value), chain P fs a b = true → b ≤ cs.length → (fs.map fun f => (cs.drop f.offset).take (P.cellsOf f.type)).flatten = (cs.take b).drop a
  | [], a, b, cs, h, _ => by
    have := Nat.eq_of_beq_eq_true h
    subst this
    simp
  | f :: fs, a, b, cs, h, hb => by
    simp only [chain, Bool.and_eq_true] at h
    have ho := Nat.eq_of_beq_eq_true h.1
    have hle : ∀ (fs : List Field) (a : Nat), chain P fs a b = true → a ≤ b := by
      intro fs
      induction fs with
      | nil => intro a h; exact Nat.le_of_eq (Nat.eq_of_beq_eq_true h)
      | cons f fs ih =>
        intro a h
        simp only [chain, Bool.and_eq_true] at h
        have := ih _ h.2
        omega
    have h2 := hle fs _ h.2
    rw [List.map_cons, List.flatten_cons, chain_flatten fs _ b cs h.2 hb, ho]
    apply List.ext_getElem?
    intro j
    rw [List.getElem?_append]
    have hlen : ((cs.drop a).take (P.cellsOf f.type)).length = P.cellsOf f.type := by simp; omega
    rw [hlen]
    by_cases hj : j < P.cellsOf f.type
    · rw [if_pos hj, List.getElem?_take, if_pos hj, List.getElem?_drop, List.getElem?_drop, List.getElem?_take, if_pos (by omega)]
    · rw [if_neg hj, List.getElem?_drop, List.getElem?_drop, List.getElem?_take, List.getElem?_take]
      congr 1
      · simp only [eq_iff_iff]; omega
      · congr 1; omega

theorem rels1_one' {E : Env} {x : AV} {v : Value} (h1 : v.oneCell' = true) (h2 : Rel E x v) : Rels1 E [x] [v] := ⟨v, [], rfl, h1, h2, rfl⟩

theorem chunks {α : Type} (cs : List α) (sz : Nat) : ∀ m : Nat, ((List.range m).map fun i => (cs.drop (i * sz)).take sz).flatten = cs.take (m * sz)
  | 0 => by simp
  | m + 1 => by
    rw [List.range_succ, List.map_append, List.flatten_append, chunks cs sz m, Nat.add_mul, Nat.one_mul, List.take_add]
    simp

theorem mapM_fst {α β γ : Type} {f : β → Option γ} : ∀ {ys : List (β × α)} {r : List γ}, (ys.map (·.1)).mapM f = some r → r.length = ys.length ∧ ∀ (i : Nat) (y : β × α), ys[i]? = some y → ∃ c, r[i]? = some c ∧ f y.1 = some c := by
  intro ys r h
  refine ⟨by simpa using Lib.mapM_length h, fun i y hy => ?_⟩
  obtain ⟨b, h1, h2⟩ := Lib.mapM_at h i y.1 (by simp [hy])
  exact ⟨b, h1, h2⟩

theorem trod_rel : ∀ (fuel n : Nat) (t : TypeId) (cs : List Value) (d : DataW H) (ps : List MemPlace) (xs : List AV) {base : Nat} {sp : Nat → Bool} {held : Bool},
    DataW.trod enc P w base sp held fuel t cs = some (d, ps) → absD P n t d = some xs → Rels1 (start w) xs cs := by
  intro fuel
  induction fuel with
  | zero => intro n t cs d ps xs base sp held h; simp [DataW.trod] at h
  | succ fuel ih =>
    intro n t cs d ps xs base sp held h hx
    cases n with
    | zero => simp [absD] at hx
    | succ n =>
      simp only [absD] at hx
      split at hx
      · rename_i b hu
        injection hx with hx
        subst hx
        obtain ⟨b', rfl, h2⟩ := DataW.trod_bool hu h
        simp only [Prod.mk.injEq, DataW.lit.injEq, Lit.bool.injEq] at h2
        obtain ⟨rfl, -⟩ := h2
        exact rels1_one' rfl rfl
      · rename_i k0 k i hu
        injection hx with hx
        subst hx
        obtain ⟨z, rfl, h2, _⟩ := DataW.trod_int hu h
        simp only [Prod.mk.injEq, DataW.lit.injEq, Lit.int.injEq] at h2
        obtain ⟨⟨rfl, rfl⟩, -⟩ := h2
        exact rels1_one' rfl rfl
      · rename_i l hu
        injection hx with hx
        subst hx
        obtain ⟨s, rfl, h2, _⟩ := DataW.trod_string hu h
        simp only [Prod.mk.injEq, DataW.lit.injEq, Lit.string.injEq] at h2
        obtain ⟨rfl, -⟩ := h2
        exact rels1_one' rfl rfl
      · rename_i e hu
        injection hx with hx
        subst hx
        rcases DataW.trod_pointer hu h with ⟨rfl, -⟩ | ⟨a, cs', y, m, _, _, h2, _⟩
        · exact rels1_one' rfl rfl
        · simp at h2
      · rename_i e hu
        injection hx with hx
        subst hx
        rcases DataW.trod_slice hu h with ⟨rfl, -⟩ | ⟨a, len, cap, els, rst, m, _, _, h2, _⟩
        · exact rels1_one' rfl ⟨⟨none, 0, rfl, Nat.le_refl _, by simp [maxLen], by simp, fun h => absurd rfl h⟩, trivial⟩
        · simp at h2
      · rename_i e els sp' hu
        rcases DataW.trod_slice hu h with ⟨_, h2⟩ | ⟨a, len, cap, elems, rst, m, hm, rfl, h2, hba, hlc, hcm, hel, hread⟩
        · simp at h2
        · simp only [Prod.mk.injEq, DataW.slice.injEq] at h2
          obtain ⟨⟨rfl, -⟩, -⟩ := h2
          cases hm
          cases hmm : (elems.map (·.1)).mapM (absD P n e) with
          | none => rw [hmm] at hx; cases hx
          | some es =>
            rw [hmm] at hx
            simp only [Option.map_some, Option.some.injEq] at hx
            subst hx
            obtain ⟨hl, hat⟩ := mapM_fst hmm
            have key : ∀ (i : Nat) r, es[i]? = some r → r.length = P.cellsOf e ∧ At (start w) r (a.add (i * P.cellsOf e)) := by
              intro i r hr
              have hil : i < elems.length := by rw [← hl]; exact (List.getElem?_eq_some_iff.1 hr).1
              obtain ⟨c, hc1, hc2⟩ := hat i _ (List.getElem?_eq_getElem hil)
              rw [hr] at hc1
              injection hc1 with hc1
              subst hc1
              have hrd := hread.1 i (by omega)
              rw [List.getElem?_eq_getElem hil] at hrd
              cases hcs : w.cells? base (a.add (i * P.cellsOf e)) (P.cellsOf e) with
              | none => rw [hcs] at hrd; cases hrd
              | some cs' =>
                rw [hcs] at hrd
                simp only [Option.bind_some] at hrd
                have hr1 := ih n e cs' _ _ r hrd hc2
                exact ⟨by rw [← hr1.length]; exact (cells?_spec hcs).1, at_of_cells hcs hr1⟩
            refine rels1_one' rfl ⟨⟨some a, cap, by rw [hl, hel], by rw [hl, hel]; exact hlc, hcm, fun r hr => ?_, fun _ => ⟨a, rfl, rows_of_each (sz := P.cellsOf e) es a key⟩⟩, trivial⟩
            obtain ⟨i, hi⟩ := List.getElem?_of_mem hr
            exact (key i r hi).1
      · rename_i fs parts hu
        obtain ⟨ys, m, hm, h2, hcl, hyl, hread⟩ := DataW.trod_struct hu h
        cases hm
        simp only [Prod.mk.injEq, DataW.agg.injEq] at h2
        obtain ⟨rfl, -⟩ := h2
        cases hc : (chain P fs.toList 0 (P.cellsOf t) && Nat.beq (ys.map (·.1)).length fs.size) with
        | false => rw [hc] at hx; cases hx
        | true =>
          rw [hc] at hx
          simp only [cond_true] at hx
          simp only [Bool.and_eq_true] at hc
          cases hmm : (fs.toList.zip (ys.map (·.1))).mapM fun x => absD P n x.1.type x.2 with
          | none => rw [hmm] at hx; cases hx
          | some xss =>
            rw [hmm] at hx
            simp only [Option.map_some, Option.some.injEq] at hx
            subst hx
            have hfl := chain_flatten (P := P) fs.toList 0 (P.cellsOf t) cs hc.1 (by omega)
            rw [List.take_of_length_le (by omega), List.drop_zero] at hfl
            rw [← hfl]
            have hxl : xss.length = fs.size := by
              rw [Lib.mapM_length hmm]
              simp [hyl]
            refine rels1_flatten _ _ (by simp [hxl]) fun k x v hk hv => ?_
            obtain ⟨p, hp1, hp2⟩ := mapM_list hmm k x hk
            rw [List.getElem?_zip_eq_some] at hp1
            obtain ⟨q1, q2⟩ := hp1
            have hf : fs[k]? = some p.1 := by simpa using q1
            have hr := hread k p.1 hf
            simp only [List.getElem?_map, Option.map_eq_some_iff] at q2 hv
            obtain ⟨y, hy1, hy2⟩ := q2
            obtain ⟨f', hf1, hf2⟩ := hv
            have : f' = p.1 := by
              have : fs[k]? = some f' := by simpa using hf1
              rw [hf] at this
              injection this with this
              exact this.symm
            subst this
            rw [hy1] at hr
            rw [← hf2]
            exact ih n _ _ y.1 y.2 x hr (by rw [hy2]; exact hp2)
      · rename_i m e parts hu
        simp only [DataW.trod, hu] at h
        split at h
        case isFalse => cases h
        rename_i hcl
        cases hmm0 : (List.range m).mapM (fun i => DataW.trod enc P w base sp held fuel e ((cs.drop (i * P.cellsOf e)).take (P.cellsOf e))) with
        | none => rw [hmm0] at h; cases h
        | some ys =>
          rw [hmm0] at h
          simp only [Option.map_some, Option.some.injEq, Prod.mk.injEq, DataW.agg.injEq] at h
          obtain ⟨rfl, -⟩ := h
          cases hc : (Nat.beq (m * P.cellsOf e) (P.cellsOf t) && Nat.beq (ys.map (·.1)).length m) with
          | false => rw [hc] at hx; cases hx
          | true =>
            rw [hc] at hx
            simp only [cond_true] at hx
            simp only [Bool.and_eq_true] at hc
            have hsz := Nat.eq_of_beq_eq_true hc.1
            cases hmm : (ys.map (·.1)).mapM (absD P n e) with
            | none => rw [hmm] at hx; cases hx
            | some xss =>
              rw [hmm] at hx
              simp only [Option.map_some, Option.some.injEq] at hx
              subst hx
              obtain ⟨hl, hat⟩ := mapM_fst hmm
              have hyl : ys.length = m := by simpa using Lib.mapM_length hmm0
              have hcut : cs = ((List.range m).map fun i => (cs.drop (i * P.cellsOf e)).take (P.cellsOf e)).flatten := by
                rw [chunks, List.take_of_length_le (by omega)]
              rw [hcut]
              refine rels1_flatten _ _ (by simp [hl, hyl]) fun k x v hk hv => ?_
              have hkm : k < m := by rw [← hyl, ← hl]; exact (List.getElem?_eq_some_iff.1 hk).1
              obtain ⟨y, hy1, hy2⟩ := Lib.mapM_at hmm0 k k (by simp [hkm])
              obtain ⟨c, hc1, hc2⟩ := hat k y hy1
              rw [hk] at hc1
              injection hc1 with hc1
              subst hc1
              have : v = (cs.drop (k * P.cellsOf e)).take (P.cellsOf e) := by
                simp [List.getElem?_range hkm] at hv
                exact hv.symm
              rw [this]
              exact ih n _ _ y.1 y.2 x hy2 hc2
      · rename_i m hu
        injection hx with hx
        subst hx
        simp only [DataW.trod, hu] at h
        split at h <;> simp_all
        · exact rels1_one' rfl rfl
        all_goals (split at h <;> simp_all)
      · cases hx

/-- What a listed variable's cells are. -/
theorem laid_rel {laid : List (String × DataW Unit)} : ∀ {ps : List MemPlace}, DataW.LaidVars P w laid ps → ∀ (i : Nat) (name : String) (d : DataW Unit) (g n : Nat) (t : TypeId) (xs : List AV), laid[i]? = some (name, d) →
    P.globalNamed name = some g → (P.globals[g]?).map (·.type) = some t → absD P n t d = some xs → At (start w) xs ⟨g, 0, none⟩ := by
  induction laid with
  | nil => intro ps _ i name d g n t xs hi; simp at hi
  | cons x laid ih =>
    intro ps h i name d g n t xs hi hg ht hx
    obtain ⟨nm, dd⟩ := x
    obtain ⟨g', t', cs, fuel, p, q, h1, h2, h3, h4, h5, _⟩ := h
    cases i with
    | zero =>
      simp only [List.getElem?_cons_zero, Option.some.injEq, Prod.mk.injEq] at hi
      obtain ⟨rfl, rfl⟩ := hi
      rw [hg] at h1
      injection h1 with h1
      subst h1
      rw [ht] at h2
      injection h2 with h2
      subst h2
      have hr := trod_rel fuel n t cs.toList dd p xs h4 hx
      unfold World.var? at h3
      rw [hg] at h3
      simp only [Option.bind_some] at h3
      rw [Rels1.iff] at hr
      rw [At.iff]
      intro j c hj
      have hjl : j < cs.toList.length := by rw [hr.1]; exact (List.getElem?_eq_some_iff.1 hj).1
      obtain ⟨q1, q2⟩ := hr.2 j c _ hj (List.getElem?_eq_getElem hjl)
      refine ⟨_, ?_, q1, stable_start w _ _, q2⟩
      rw [Addr.add_lit, Nat.zero_add]
      split at h3
      · rename_i cs' tt fr hb
        injection h3 with h3
        subst h3
        have hjs : j < cs'.size := by simpa using hjl
        show World.cell? w _ = _
        simp [World.cell?, hb, hjs]
      · cases h3
    | succ i => exact ih h5 i name d g n t xs (by simpa using hi) hg ht hx
end
end Go.Ai
