/-
  Pieces of a page's text: contracts that the rows use. No statement about the program is made here.
  Pieces of a page's text, in plain terms: what is wrong has a number; how many pieces there are. No statement about the program is made here.
  Pieces of a page's text, in plain terms: written in one form a piece is no longer than it was. No statement about the program is made here.
  Runs of the functions of a page's pieces, printed by a home tool; each is the kernel's word.
  Pieces of a page's text: one behind the other they are the text. The row's function under contract.
  One behind the other the pieces are the text: what the row's argument may be.
-/
import Derived.Test.YtolmmodgneodbaaDoorJEo
import Derived.Test.YtolmmodgneodbaaDoorJEk
section
namespace Go.Ai.Ex
open Go.Ai Go.RowKit
set_option linter.unusedVariables false
/-- The pieces of a text, or what is wrong and where. -/
def tokC : Con := fun vs h K => ∃ s : List UInt8, s.length ≤ limE ∧ vs = [.str s] ∧ (∀ p e, lexM s = .error (p, e) → K (.tup [.sl 0 [] none, .int .i64 p, .int .i64 e]) h) ∧
  (∀ l, lexM s = .ok l → K (.tup [.sl 6 (encTs l) none, .int .i64 0, .int .i64 0]) h)
def yesC : Con := fun vs h K => vs.isEmpty = true ∧ K (.bool true) h
/-- A piece in one form. -/
def wrC : Con := fun vs h K => ∃ t : Tok, (written t).length ≤ limE ∧ vs = [.agg (encT t)] ∧ K (.str (written t)) h
def hasC : Con := fun vs h K => ∃ (s : List UInt8) (c : UInt8), s.length ≤ limE ∧ vs = [.str s, .str [c]] ∧ K (.bool (s.contains c)) h
end Go.Ai.Ex
end

section
namespace Go.Ai.Ex
open Go.Ai Go.RowKit
set_option linter.unusedVariables false
set_option linter.unusedSimpArgs false
theorem attrM_e {s : List UInt8} {at' tag : Nat} {l : List Att} {p : Nat} {e : Int} (h : attrM s at' tag l = .error (p, e)) : e ≠ 0 := by
  unfold attrM at h
  simp only at h
  repeat' split at h
  all_goals first | (cases h; done) | (simp only [Except.error.injEq, Prod.mk.injEq] at h; obtain ⟨-, rfl⟩ := h; decide)
theorem attrsM_e {s : List UInt8} {tag : Nat} : ∀ (f at' : Nat) (l : List Att) (p : Nat) (e : Int), attrsM s tag f at' l = .error (p, e) → e ≠ 0
  | 0, at', l, p, e, h => by simp only [attrsM, Except.error.injEq, Prod.mk.injEq] at h; obtain ⟨-, rfl⟩ := h; decide
  | f + 1, at', l, p, e, h => by
    unfold attrsM at h
    simp only at h
    split at h
    · simp only [Except.error.injEq, Prod.mk.injEq] at h; obtain ⟨-, rfl⟩ := h; decide
    · split at h
      · cases h
      · split at h
        · simp only [Except.error.injEq, Prod.mk.injEq] at h; obtain ⟨-, rfl⟩ := h; decide
        · split at h
          · rename_i e' he
            simp only [Except.error.injEq] at h
            subst h
            exact attrM_e he
          · exact attrsM_e f _ _ p e h
theorem openM_e {s : List UInt8} {tag p : Nat} {e : Int} (h : openM s tag = .error (p, e)) : e ≠ 0 := by
  unfold openM at h
  simp only at h
  split at h
  · simp only [Except.error.injEq, Prod.mk.injEq] at h; obtain ⟨-, rfl⟩ := h; decide
  · split at h
    · rename_i e' he
      simp only [Except.error.injEq] at h
      subst h
      exact attrsM_e _ _ _ p e he
    · rename_i l b hb
      unfold tagEnd at h
      simp only at h
      generalize hk : (if s.getD b 0 = 47 then 1 else 0 : Nat) = k at h
      split at h
      · simp only [Except.error.injEq, Prod.mk.injEq] at h; obtain ⟨-, rfl⟩ := h; decide
      · split at h
        · simp only [Except.error.injEq, Prod.mk.injEq] at h; obtain ⟨-, rfl⟩ := h; decide
        · cases h
theorem rawM_e {s : List UInt8} {t : Tok} {p : Nat} {e : Int} (h : rawM s t = .error (p, e)) : e ≠ 0 := by
  unfold rawM at h
  repeat' split at h
  all_goals first | (cases h; done) | (simp only [Except.error.injEq, Prod.mk.injEq] at h; obtain ⟨-, rfl⟩ := h; decide)
theorem closeM_e {s : List UInt8} {tag p : Nat} {e : Int} (h : closeM s tag = .error (p, e)) : e ≠ 0 := by
  unfold closeM at h
  simp only at h
  repeat' split at h
  all_goals first | (cases h; done) | (simp only [Except.error.injEq, Prod.mk.injEq] at h; obtain ⟨-, rfl⟩ := h; decide)
theorem nextM_e {s : List UInt8} {a : Nat} {hid : Option Nat} {p : Nat} {e : Int} (h : nextM s a hid = .error (p, e)) : e ≠ 0 := by
  unfold nextM at h
  split at h
  · split at h
    · rename_i e' he
      simp only [Except.error.injEq] at h
      subst h
      exact openM_e he
    · split at h
      · rename_i e' he
        simp only [Except.error.injEq] at h
        subst h
        exact rawM_e he
      · cases h
  · split at h
    · split at h
      · rename_i e' he
        simp only [Except.error.injEq] at h
        subst h
        exact closeM_e he
      · cases h
    · repeat' split at h
      all_goals first | (cases h; done) | (simp only [Except.error.injEq, Prod.mk.injEq] at h; obtain ⟨-, rfl⟩ := h; decide)
theorem lexG_e {s : List UInt8} : ∀ (f a : Nat) (hid : Option Nat) (p : Nat) (e : Int), lexG s f a hid = .error (p, e) → e ≠ 0
  | 0, a, hid, p, e, h => by cases h
  | f + 1, a, hid, p, e, h => by
    unfold lexG at h
    split at h
    · split at h
      · simp only [Except.error.injEq, Prod.mk.injEq] at h; obtain ⟨-, rfl⟩ := h; decide
      · cases h
    · split at h
      · split at h
        · rename_i e' he
          simp only [Except.error.injEq] at h
          subst h
          exact nextM_e he
        · split at h
          · rename_i e' he
            simp only [Except.error.injEq] at h
            subst h
            exact lexG_e f _ _ p e he
          · cases h
      · simp only at h
        split at h
        · rename_i e' he
          simp only [Except.error.injEq] at h
          subst h
          exact lexG_e f _ _ p e he
        · cases h
theorem lexM_e {s : List UInt8} {p : Nat} {e : Int} (h : lexM s = .error (p, e)) : e ≠ 0 := lexG_e _ _ _ p e h
theorem WG_len {s : List UInt8} : ∀ (r : List Tok) (a : Nat) (prev : Option Tok) (hid : Bool), WG s a prev hid r → a ≤ s.length → r.length ≤ 2 * (s.length - a) ∨ ((∃ p, prev = some p ∧ p.kind = 2) ∧ r.length ≤ 2 * (s.length - a) + 1)
  | [], a, prev, hid, _, _ => .inl (by simp)
  | t :: r, a, prev, hid, h, ha => by
    obtain ⟨h1, h2, h3, h4, h5, h6, h7, h8, h9, h10, h11⟩ := h
    have ih := WG_len r t.to (some t) _ h11 h3
    rw [List.length_cons]
    by_cases ht : t.text = []
    · have k := h5 ht
      refine .inr ⟨h7 k, ?_⟩
      rcases ih with ih | ⟨⟨p, hp, hk⟩, _⟩
      · omega
      · injection hp with hp; subst hp; rw [k] at hk; cases hk
    · have : a < t.to := by
        rcases Nat.lt_or_ge a t.to with q | q
        · exact q
        · exfalso; apply ht; rw [← h4]; unfold cut; rw [show t.to - a = 0 by omega]; rfl
      refine .inl ?_
      rcases ih with ih | ⟨_, ih⟩ <;> omega
theorem low_as (n : Nat) (l : List Att) : lowVss n (encAs l) = true := by
  induction l with
  | nil => rfl
  | cons a r ih => show lowVss n (encA a :: encAs r) = true; rw [lowVss, ih]; rfl
theorem low_ts (n : Nat) (l : List Tok) : lowVss n (encTs l) = true := by
  induction l with
  | nil => rfl
  | cons a r ih =>
    show lowVss n (encT a :: encTs r) = true
    rw [lowVss, ih]
    simp only [encT, lowVs, lowV, low_as, Bool.and_true, Bool.true_and]
end Go.Ai.Ex
end

section
namespace Go.Ai.Ex
open Go.Ai Go.RowKit
set_option linter.unusedVariables false
set_option linter.unusedSimpArgs false
def fits (t : Tok) : Prop := (written t).length + t.fr ≤ t.to ∧ (t.attrs = [] ∨ t.kind = 2 ∨ t.kind = 3)
theorem attrsS_app (l r : List Att) : (attrsS (l ++ r)).length = (attrsS l).length + (attrsS r).length := by
  induction l with
  | nil => simp [attrsS]
  | cons a l ih =>
    simp only [List.cons_append, attrsS, List.length_cons, List.length_append, ih]
    omega
theorem attrsS_append (l r : List Att) : attrsS (l ++ r) = attrsS l ++ attrsS r := by
  induction l with
  | nil => rfl
  | cons a l ih => simp [attrsS, ih]
theorem attrM_len {s : List UInt8} {at' tag : Nat} {l : List Att} {a : Att} {b : Nat} (h : attrM s at' tag l = .ok (a, b)) : (attrsS [a]).length + at' ≤ b + 1 := by
  unfold attrM at h
  simp only at h
  repeat' split at h
  all_goals try (cases h; done)
  simp only [Except.ok.injEq, Prod.mk.injEq] at h
  obtain ⟨rfl, rfl⟩ := h
  simp only [attrsS, List.length_cons, List.length_append, List.length_take, List.length_nil]
  omega
theorem attrsM_len {s : List UInt8} {tag : Nat} : ∀ (f at' : Nat) (l l' : List Att) (b : Nat), at' ≤ s.length → attrsM s tag f at' l = .ok (l', b) → (attrsS l').length + at' ≤ (attrsS l).length + b
  | 0, at', l, l', b, _, h => by cases h
  | f + 1, at', l, l', b, ha, h => by
    obtain ⟨p1, p2⟩ := past_le ha
    unfold attrsM at h
    simp only at h
    split at h
    · cases h
    · split at h
      · simp only [Except.ok.injEq, Prod.mk.injEq] at h
        obtain ⟨rfl, rfl⟩ := h
        omega
      · split at h
        · cases h
        · rename_i hne
          split at h
          · cases h
          · rename_i a c hc
            obtain ⟨q1, q2⟩ := attrM_ok hc
            have h1 := attrM_len hc
            have h2 := attrsM_len f c _ l' b q2 h
            rw [attrsS_app] at h2
            omega
theorem openM_fit {s : List UInt8} {tag : Nat} {t : Tok} (hl : tag + 5 ≤ s.length) (h : openM s tag = .ok t) : fits t := by
  unfold openM at h
  simp only at h
  split at h
  · cases h
  · have hn := lets_le s (tag + 5)
    split at h
    · cases h
    · rename_i l b hb
      have hlen := attrsM_len _ _ _ _ _ (by omega) hb
      simp only [attrsS, List.length_nil, Nat.zero_add] at hlen
      unfold tagEnd at h
      simp only at h
      generalize hk : (if s.getD b 0 = 47 then 1 else 0 : Nat) = k at h
      split at h
      · cases h
      · split at h
        · cases h
        · simp only [Except.ok.injEq] at h
          subst h
          refine ⟨?_, .inr (by by_cases k1 : k = 1 <;> simp [k1])⟩
          unfold written
          by_cases k1 : k = 1
          · simp only [if_pos k1]
            rw [if_neg (by decide), if_neg (by decide), if_neg (by decide), if_pos trivial]
            simp only [List.length_append, List.length_take, List.length_drop, opensS, List.length_cons, List.length_nil]
            omega
          · simp only [if_neg k1]
            rw [if_neg (by decide), if_neg (by decide), if_pos trivial]
            simp only [List.length_append, List.length_take, List.length_drop, opensS, List.length_cons, List.length_nil]
            omega
theorem closeM_fit {s : List UInt8} {tag : Nat} {t : Tok} (hl : tag + 6 ≤ s.length) (h : closeM s tag = .ok t) : fits t := by
  unfold closeM at h
  simp only at h
  split at h
  · cases h
  · have hn := lets_le s (tag + 6)
    obtain ⟨q1, q2⟩ := past_le (s := s) (a := tag + 6 + lets s (tag + 6)) (by omega)
    split at h
    · cases h
    · split at h
      · cases h
      · simp only [Except.ok.injEq] at h
        subst h
        refine ⟨?_, .inl rfl⟩
        unfold written
        rw [if_pos rfl]
        simp only [List.length_append, List.length_take, List.length_drop, closesS, List.length_cons, List.length_nil]
        omega
theorem nextM_fit {s : List UInt8} {a : Nat} {hid hid2 : Option Nat} {l : List Tok} (ha : a < s.length) (hs : spec s a hid.isSome = true) (h : nextM s a hid = .ok (l, hid2)) : ∀ t ∈ l, fits t := by
  unfold nextM at h
  split at h
  · rename_i ho
    have h5 := has_le ho (by simp [opensS])
    have e5 : opensS.length = 5 := rfl
    split at h
    · cases h
    · rename_i t ht
      split at h
      · cases h
      · rename_i l2 hl2
        simp only [Except.ok.injEq, Prod.mk.injEq] at h
        obtain ⟨rfl, rfl⟩ := h
        have hf := openM_fit (by omega) ht
        rcases rawM_ok hl2 with ⟨_, rfl⟩ | ⟨_, _, n, _, rfl⟩
        · intro x hx
          rw [List.mem_singleton] at hx
          subst hx; exact hf
        · intro x hx
          simp only [List.mem_cons, List.not_mem_nil, or_false] at hx
          rcases hx with rfl | rfl
          · exact hf
          · refine ⟨?_, .inl rfl⟩
            unfold written
            rw [if_neg (by simp), if_neg (by simp), if_neg (by simp), if_neg (by simp)]
            simp only [List.length_take]
            omega
  · rename_i ho
    split at h
    · rename_i hc
      have h6 := has_le hc (by simp [closesS])
      have e6 : closesS.length = 6 := rfl
      split at h
      · cases h
      · rename_i t ht
        simp only [Except.ok.injEq, Prod.mk.injEq] at h
        obtain ⟨rfl, rfl⟩ := h
        intro x hx
        rw [List.mem_singleton] at hx
        subst hx
        exact closeM_fit (by omega) ht
    · split at h
      · split at h
        · cases h
        · simp only [Except.ok.injEq, Prod.mk.injEq] at h
          obtain ⟨rfl, rfl⟩ := h
          intro x hx
          rw [List.mem_singleton] at hx
          subst hx
          refine ⟨?_, .inl rfl⟩
          unfold written
          rw [if_neg (by simp), if_pos rfl]
          simp only [hidesS, List.length_append, List.length_cons, List.length_nil]
          omega
      · simp only [Except.ok.injEq, Prod.mk.injEq] at h
        obtain ⟨rfl, rfl⟩ := h
        intro x hx
        rw [List.mem_singleton] at hx
        subst hx
        refine ⟨?_, .inl rfl⟩
        unfold written
        rw [if_neg (by simp), if_neg (by simp), if_neg (by simp), if_neg (by simp)]
        simp only [showsS, List.length_cons, List.length_nil]
        omega
theorem lexG_fit {s : List UInt8} : ∀ (f a : Nat) (hid : Option Nat) (l : List Tok), a ≤ s.length → lexG s f a hid = .ok l → ∀ t ∈ l, fits t
  | 0, a, hid, l, _, h => by
    simp only [lexG, Except.ok.injEq] at h
    subst h
    simp
  | f + 1, a, hid, l, ha, h => by
    unfold lexG at h
    split at h
    · split at h
      · cases h
      · simp only [Except.ok.injEq] at h
        subst h
        simp
    · rename_i hlt
      split at h
      · rename_i hs
        split at h
        · cases h
        · rename_i l1 hid2 hn
          split at h
          · cases h
          · rename_i r hr
            simp only [Except.ok.injEq] at h
            subst h
            have h1 := nextM_fit (by omega) hs hn
            intro t ht
            rcases List.mem_append.1 ht with ht | ht
            · exact h1 t ht
            · by_cases hle : lastTo l1 (a + 1) ≤ s.length
              · exact lexG_fit f _ _ r hle hr t ht
              · cases f with
                | zero =>
                  simp only [lexG, Except.ok.injEq] at hr
                  subst hr; cases ht
                | succ g =>
                  unfold lexG at hr
                  rw [if_pos (by omega)] at hr
                  split at hr
                  · cases hr
                  · simp only [Except.ok.injEq] at hr
                    subst hr; cases ht
      · simp only at h
        split at h
        · cases h
        · rename_i r hr
          simp only [Except.ok.injEq] at h
          subst h
          obtain ⟨t1, t2, _⟩ := textTo_ok (s := s) (hid := hid.isSome) (s.length - a) a (by omega) ha
          intro t ht
          rcases List.mem_cons.1 ht with rfl | ht
          · refine ⟨?_, .inl rfl⟩
            unfold written
            rw [if_neg (by simp), if_neg (by simp), if_neg (by simp), if_neg (by simp)]
            simp only [cut, List.length_take]
            omega
          · exact lexG_fit f _ _ r t2 hr t ht
theorem lexM_fit {s : List UInt8} {l : List Tok} (h : lexM s = .ok l) : ∀ t ∈ l, fits t := lexG_fit _ _ _ l (by omega) h
theorem WG_out {s : List UInt8} : ∀ (r : List Tok) (a : Nat) (prev : Option Tok) (hid : Bool), WG s a prev hid r → (∀ t ∈ r, fits t) → a ≤ s.length → (outS r).length + a ≤ s.length
  | [], a, prev, hid, _, _, ha => by simpa [outS] using ha
  | t :: r, a, prev, hid, h, hf, ha => by
    obtain ⟨h1, h2, h3, h4, h5, h6, h7, h8, h9, h10, h11⟩ := h
    have ih := WG_out r t.to (some t) _ h11 (fun x hx => hf x (by simp [hx])) h3
    have := (hf t (by simp)).1
    rw [outS, List.length_append]
    omega
theorem outS_mem {l : List Tok} {t : Tok} (h : t ∈ l) : (written t).length ≤ (outS l).length := by
  induction l with
  | nil => cases h
  | cons a l ih =>
    rw [outS, List.length_append]
    rcases List.mem_cons.1 h with rfl | h
    · omega
    · have := ih h; omega
theorem outS_app (l r : List Tok) : outS (l ++ r) = outS l ++ outS r := by
  induction l with
  | nil => rfl
  | cons a l ih => simp [outS, ih]
theorem sameL_len : ∀ {l m : List Tok}, sameL l m → m.length = l.length
  | [], [], _ => rfl
  | a :: r, b :: q, h => by rw [List.length_cons, List.length_cons, sameL_len h.2]
  | [], _ :: _, h => h.elim
  | _ :: _, [], h => h.elim
theorem attrsS_count (l : List Att) : l.length ≤ (attrsS l).length := by
  induction l with
  | nil => simp
  | cons a l ih => simp only [attrsS, List.length_cons, List.length_append]; omega
theorem fits_count {t : Tok} (h : fits t) : t.attrs.length ≤ (written t).length := by
  have := attrsS_count t.attrs
  rcases h.2 with h | h | h
  · rw [h]; simp
  · unfold written
    rw [if_neg (by omega), if_neg (by omega), if_pos h]
    simp only [List.length_append]
    omega
  · unfold written
    rw [if_neg (by omega), if_neg (by omega), if_neg (by omega), if_pos h]
    simp only [List.length_append]
    omega
end Go.Ai.Ex
end

section
namespace Go.Proofs.YtolmmodgneodbaaDoor
open Go.Ai Go Go.Ai.Ex
set_option maxRecDepth 100000
set_option linter.unusedVariables false
theorem t5 {v : AV} {s : List UInt8} (hT : TabOk cfg2 (ctab [(8, tokC), (7, yesC)])) (H :
    ifP (decide ((↑(List.length s) : Int) > 6000)) (true = true ∧ AV.bool true = v) (∃ (s1 : List UInt8), List.length s1 ≤ 1000000 ∧ [AV.str s] = [AV.str s1] ∧ (∀ (p2 : Nat) (e3 : Int), lexM s1 = Except.error (p2, e3) → ifP (e3 != 0) (ifP (decide ((↑p2 : Int) < (↑(List.length s) : Int))) (true = true ∧ AV.bool true = v) (AV.bool false = v)) (ToEnd cfg2 5 (bodyOf Tryd.f5) (RetIs Tryd.prog Tryd.f5 v) [Fm.code [0, 1, 0, 1, 1, 1, 1, 1, 1], Fm.block 0, Fm.code [1, 1, 1, 1, 1, 1, 1]] XT.normal [(0, true, AV.str s), (3, true, AV.sl 0 [] none), (6, true, AV.int IntKind.i64 0), (7, true, AV.int IntKind.i64 0), (8, true, AV.int IntKind.i64 0)] [])) ∧ ∀ (l5 : List Tok), lexM s1 = Except.ok l5 → ToEnd cfg2 5 (bodyOf Tryd.f5) (RetIs Tryd.prog Tryd.f5 v) [Fm.code [0, 1, 0, 1, 1, 1, 1, 1, 1], Fm.block 0, Fm.code [1, 1, 1, 1, 1, 1, 1]] XT.normal [(0, true, AV.str s), (3, true, AV.sl 6 (encTs l5) none), (6, true, AV.int IntKind.i64 0), (7, true, AV.int IntKind.i64 0), (8, true, AV.int IntKind.i64 0)] [])) :
    ToEnd cfg2 5 (bodyOf Tryd.f5) (RetIs Tryd.prog Tryd.f5 v) ([.code []]) .normal ([(0, true, .str s)]) ([]) := by
  exact unr_ok hT 100000 _ _ _ _ (show unr cfg2 5 (bodyOf Tryd.f5) (ctab [(8, tokC), (7, yesC)]) ⟨[[0, 1, 0, 1, 1, 1, 1, 1, 1]], [([0, 0, 0, 1, 0, 0, 1, 0, 1, 1, 1, 1, 1, 1], 2, [.int .i64, .str, .av, .str, .int .i64, .int .i64]), ([0, 0, 1, 1, 1, 1, 0, 0, 1, 0, 0, 1, 0, 1, 1, 1, 1, 1, 1], 11, [.int .i64, .str, .av, .str, .int .i64, .int .i64]), ([0, 0, 1, 1, 1, 1, 0, 0, 1, 0, 0, 1, 0, 1, 1, 1, 1, 1, 1], 20, [.int .i64, .str, .av, .str, .int .i64, .int .i64]), ([0, 0, 1, 1, 1, 1, 0, 0, 1, 0, 0, 1, 0, 1, 1, 1, 1, 1, 1], 29, [.int .i64, .str, .av, .str, .int .i64, .int .i64]), ([0, 0, 1, 1, 1, 1, 1, 0, 0, 1, 0, 0, 1, 0, 1, 1, 1, 1, 1, 1], 10, [.int .i64, .str, .av, .str, .int .i64, .int .i64]), ([0, 0, 1, 1, 1, 1, 1, 0, 0, 1, 0, 0, 1, 0, 1, 1, 1, 1, 1, 1], 28, [.int .i64, .str, .av, .str, .int .i64, .int .i64])]⟩ (RetIs Tryd.prog Tryd.f5 v) 100000 ([.code []]) .normal ([(0, true, .str s)]) ([]) from unr_use H (by kernel_rfl))

theorem t5a {v : AV} {s : List UInt8} {es : List (List AV)} {a hd i : Int} (hT : TabOk cfg2 (ctab [(8, tokC), (7, yesC)])) (H :
    ifP (decide (i < (↑(List.length es) : Int))) (gAnd (inR i (List.length es) && true && true) (∃ (z1 : Int), ∃ (s2 : List UInt8), ∃ (v3 : AV), ∃ (s4 : List UInt8), ∃ (z5 : Int), ∃ (z6 : Int), getE es i = [AV.int IntKind.i64 z1, AV.str s2, v3, AV.str s4, AV.int IntKind.i64 z5, AV.int IntKind.i64 z6] ∧ ifP (z5 != a) (AV.bool false = v) (ifP (decide (z6 < a)) (AV.bool false = v) (ifP (decide (z6 > (↑(List.length s) : Int))) (AV.bool false = v) (gAnd (cutOb (List.length s) (some a) (some z6)) (ifP (!cutL s (some a) (some z6) == s4) (AV.bool false = v) (ifP (s4 == []) (ifP (z1 != 7) (AV.bool false = v) (ToEnd cfg2 5 (bodyOf Tryd.f5) (RetIs Tryd.prog Tryd.f5 v) [Fm.code [1, 1, 0, 0, 1, 0, 0, 1, 0, 1, 1, 1, 1, 1, 1], Fm.block 1, Fm.code [1, 1, 0, 0, 1, 0, 1, 1, 1, 1, 1, 1], Fm.loop [0, 1, 0, 1, 1, 1, 1, 1, 1] 0, Fm.block 0, Fm.code [1, 1, 1, 1, 1, 1, 1]] XT.normal [(0, true, AV.str s), (3, true, AV.sl 6 es none), (7, true, AV.int IntKind.i64 hd), (8, true, AV.int IntKind.i64 i), (9, true, AV.ptr 1 0)] [Blk.grow 0 3 40, Blk.mem 32 [AV.int IntKind.i64 z1, AV.str s2, v3, AV.str s4, AV.int IntKind.i64 z5, AV.int IntKind.i64 z6]])) (ToEnd cfg2 5 (bodyOf Tryd.f5) (RetIs Tryd.prog Tryd.f5 v) [Fm.code [1, 1, 0, 0, 1, 0, 0, 1, 0, 1, 1, 1, 1, 1, 1], Fm.block 1, Fm.code [1, 1, 0, 0, 1, 0, 1, 1, 1, 1, 1, 1], Fm.loop [0, 1, 0, 1, 1, 1, 1, 1, 1] 0, Fm.block 0, Fm.code [1, 1, 1, 1, 1, 1, 1]] XT.normal [(0, true, AV.str s), (3, true, AV.sl 6 es none), (7, true, AV.int IntKind.i64 hd), (8, true, AV.int IntKind.i64 i), (9, true, AV.ptr 1 0)] [Blk.grow 0 3 40, Blk.mem 32 [AV.int IntKind.i64 z1, AV.str s2, v3, AV.str s4, AV.int IntKind.i64 z5, AV.int IntKind.i64 z6]])))))))) (ifP (a == (↑(List.length s) : Int)) (ifP (hd == 0) (true = true ∧ AV.bool true = v) (AV.bool false = v)) (AV.bool false = v))) :
    ToEnd cfg2 5 (bodyOf Tryd.f5) (RetIs Tryd.prog Tryd.f5 v) ([.code [0, 1, 0, 1, 1, 1, 1, 1, 1], .block 0, .code [1, 1, 1, 1, 1, 1, 1]]) .normal ([(0, true, .str s), (3, true, .sl 6 es none), (6, true, .int .i64 a), (7, true, .int .i64 hd), (8, true, .int .i64 i)]) ([]) := by
  exact ends_round hT 100000 (by kernel_rfl) (show unr cfg2 5 (bodyOf Tryd.f5) (ctab [(8, tokC), (7, yesC)]) ⟨[[0, 1, 0, 1, 1, 1, 1, 1, 1], [1, 1, 0, 0, 1, 0, 0, 1, 0, 1, 1, 1, 1, 1, 1], [1, 1, 1, 1, 1, 0, 0, 1, 0, 0, 1, 0, 1, 1, 1, 1, 1, 1], [1, 1, 1, 1, 1, 1, 0, 0, 1, 0, 0, 1, 0, 1, 1, 1, 1, 1, 1]], [([0, 0, 0, 1, 0, 0, 1, 0, 1, 1, 1, 1, 1, 1], 2, [.int .i64, .str, .av, .str, .int .i64, .int .i64]), ([0, 0, 1, 1, 1, 1, 0, 0, 1, 0, 0, 1, 0, 1, 1, 1, 1, 1, 1], 11, [.int .i64, .str, .av, .str, .int .i64, .int .i64]), ([0, 0, 1, 1, 1, 1, 0, 0, 1, 0, 0, 1, 0, 1, 1, 1, 1, 1, 1], 20, [.int .i64, .str, .av, .str, .int .i64, .int .i64]), ([0, 0, 1, 1, 1, 1, 0, 0, 1, 0, 0, 1, 0, 1, 1, 1, 1, 1, 1], 29, [.int .i64, .str, .av, .str, .int .i64, .int .i64]), ([0, 0, 1, 1, 1, 1, 1, 0, 0, 1, 0, 0, 1, 0, 1, 1, 1, 1, 1, 1], 10, [.int .i64, .str, .av, .str, .int .i64, .int .i64]), ([0, 0, 1, 1, 1, 1, 1, 0, 0, 1, 0, 0, 1, 0, 1, 1, 1, 1, 1, 1], 28, [.int .i64, .str, .av, .str, .int .i64, .int .i64])]⟩ (RetIs Tryd.prog Tryd.f5 v) 100000 ([.code [0, 0, 1, 0, 1, 1, 1, 1, 1, 1], .loop [0, 1, 0, 1, 1, 1, 1, 1, 1] 0, .block 0, .code [1, 1, 1, 1, 1, 1, 1]]) .normal ([(0, true, .str s), (3, true, .sl 6 es none), (6, true, .int .i64 a), (7, true, .int .i64 hd), (8, true, .int .i64 i)]) ([]) from unr_use H (by kernel_rfl))

theorem t5b {v : AV} {s : List UInt8} {es : List (List AV)} {hd i k : Int} {nm : List UInt8} {av : AV} {tx : List UInt8} {fr to : Int}  (hT : TabOk cfg2 (ctab [(8, tokC), (7, yesC)])) (H :
    ifP (k == 2)
  (ifP (nm == [114, 101, 109, 111, 118, 101]) (ifP (decide (IntKind.wrap IntKind.i64 (i + 2) ≥ (↑(List.length es) : Int))) (AV.bool false = v) (gAnd (inR (IntKind.wrap IntKind.i64 (i + 1)) (List.length es) && true && true) (∃ (z1 : Int), ∃ (s2 : List UInt8), ∃ (v3 : AV), ∃ (s4 : List UInt8), ∃ (z5 : Int), ∃ (z6 : Int), getE es (IntKind.wrap IntKind.i64 (i + 1)) = [AV.int IntKind.i64 z1, AV.str s2, v3, AV.str s4, AV.int IntKind.i64 z5, AV.int IntKind.i64 z6] ∧ ifP (z1 != 7) (AV.bool false = v) (gAnd (inR (IntKind.wrap IntKind.i64 (i + 2)) (List.length es) && true && true) (∃ (z7 : Int), ∃ (s8 : List UInt8), ∃ (v9 : AV), ∃ (s10 : List UInt8), ∃ (z11 : Int), ∃ (z12 : Int), getE es (IntKind.wrap IntKind.i64 (i + 2)) = [AV.int IntKind.i64 z7, AV.str s8, v9, AV.str s10, AV.int IntKind.i64 z11, AV.int IntKind.i64 z12] ∧ ifP (z7 != 4) (AV.bool false = v) (gAnd (inR (IntKind.wrap IntKind.i64 (i + 2)) (List.length es) && true && true) (∃ (z13 : Int), ∃ (s14 : List UInt8), ∃ (v15 : AV), ∃ (s16 : List UInt8), ∃ (z17 : Int), ∃ (z18 : Int), getE es (IntKind.wrap IntKind.i64 (i + 2)) = [AV.int IntKind.i64 z13, AV.str s14, v15, AV.str s16, AV.int IntKind.i64 z17, AV.int IntKind.i64 z18] ∧ ifP (!s14 == nm) (AV.bool false = v) (ToEnd cfg2 5 (bodyOf Tryd.f5) (RetIs Tryd.prog Tryd.f5 v) [Fm.code [1, 1, 1, 1, 1, 0, 0, 1, 0, 0, 1, 0, 1, 1, 1, 1, 1, 1], Fm.block 1, Fm.code [1, 1, 0, 0, 1, 0, 1, 1, 1, 1, 1, 1], Fm.loop [0, 1, 0, 1, 1, 1, 1, 1, 1] 0, Fm.block 0, Fm.code [1, 1, 1, 1, 1, 1, 1]] XT.normal [(0, true, AV.str s), (3, true, AV.sl 6 es none), (6, true, AV.int IntKind.i64 to), (7, true, AV.int IntKind.i64 hd), (8, true, AV.int IntKind.i64 i), (9, true, AV.ptr 1 0)] [Blk.grow 0 3 40, Blk.mem 32 [AV.int IntKind.i64 k, AV.str nm, av, AV.str tx, AV.int IntKind.i64 fr, AV.int IntKind.i64 to]]))))))))
    (ifP (nm == [105, 110, 108, 105, 110, 101]) (ifP (decide (IntKind.wrap IntKind.i64 (i + 2) ≥ (↑(List.length es) : Int))) (AV.bool false = v) (gAnd (inR (IntKind.wrap IntKind.i64 (i + 1)) (List.length es) && true && true) (∃ (z19 : Int), ∃ (s20 : List UInt8), ∃ (v21 : AV), ∃ (s22 : List UInt8), ∃ (z23 : Int), ∃ (z24 : Int), getE es (IntKind.wrap IntKind.i64 (i + 1)) = [AV.int IntKind.i64 z19, AV.str s20, v21, AV.str s22, AV.int IntKind.i64 z23, AV.int IntKind.i64 z24] ∧ ifP (z19 != 7) (AV.bool false = v) (gAnd (inR (IntKind.wrap IntKind.i64 (i + 2)) (List.length es) && true && true) (∃ (z25 : Int), ∃ (s26 : List UInt8), ∃ (v27 : AV), ∃ (s28 : List UInt8), ∃ (z29 : Int), ∃ (z30 : Int), getE es (IntKind.wrap IntKind.i64 (i + 2)) = [AV.int IntKind.i64 z25, AV.str s26, v27, AV.str s28, AV.int IntKind.i64 z29, AV.int IntKind.i64 z30] ∧ ifP (z25 != 4) (AV.bool false = v) (gAnd (inR (IntKind.wrap IntKind.i64 (i + 2)) (List.length es) && true && true) (∃ (z31 : Int), ∃ (s32 : List UInt8), ∃ (v33 : AV), ∃ (s34 : List UInt8), ∃ (z35 : Int), ∃ (z36 : Int), getE es (IntKind.wrap IntKind.i64 (i + 2)) = [AV.int IntKind.i64 z31, AV.str s32, v33, AV.str s34, AV.int IntKind.i64 z35, AV.int IntKind.i64 z36] ∧ ifP (!s32 == nm) (AV.bool false = v) (ToEnd cfg2 5 (bodyOf Tryd.f5) (RetIs Tryd.prog Tryd.f5 v) [Fm.code [1, 1, 1, 1, 1, 0, 0, 1, 0, 0, 1, 0, 1, 1, 1, 1, 1, 1], Fm.block 1, Fm.code [1, 1, 0, 0, 1, 0, 1, 1, 1, 1, 1, 1], Fm.loop [0, 1, 0, 1, 1, 1, 1, 1, 1] 0, Fm.block 0, Fm.code [1, 1, 1, 1, 1, 1, 1]] XT.normal [(0, true, AV.str s), (3, true, AV.sl 6 es none), (6, true, AV.int IntKind.i64 to), (7, true, AV.int IntKind.i64 hd), (8, true, AV.int IntKind.i64 i), (9, true, AV.ptr 1 0)] [Blk.grow 0 3 40, Blk.mem 32 [AV.int IntKind.i64 k, AV.str nm, av, AV.str tx, AV.int IntKind.i64 fr, AV.int IntKind.i64 to]])))))))) (ToEnd cfg2 5 (bodyOf Tryd.f5) (RetIs Tryd.prog Tryd.f5 v) [Fm.code [1, 1, 1, 1, 1, 0, 0, 1, 0, 0, 1, 0, 1, 1, 1, 1, 1, 1], Fm.block 1, Fm.code [1, 1, 0, 0, 1, 0, 1, 1, 1, 1, 1, 1], Fm.loop [0, 1, 0, 1, 1, 1, 1, 1, 1] 0, Fm.block 0, Fm.code [1, 1, 1, 1, 1, 1, 1]] XT.normal [(0, true, AV.str s), (3, true, AV.sl 6 es none), (6, true, AV.int IntKind.i64 to), (7, true, AV.int IntKind.i64 hd), (8, true, AV.int IntKind.i64 i), (9, true, AV.ptr 1 0)] [Blk.grow 0 3 40, Blk.mem 32 [AV.int IntKind.i64 k, AV.str nm, av, AV.str tx, AV.int IntKind.i64 fr, AV.int IntKind.i64 to]])))
  (ToEnd cfg2 5 (bodyOf Tryd.f5) (RetIs Tryd.prog Tryd.f5 v) [Fm.code [1, 1, 1, 1, 1, 0, 0, 1, 0, 0, 1, 0, 1, 1, 1, 1, 1, 1], Fm.block 1, Fm.code [1, 1, 0, 0, 1, 0, 1, 1, 1, 1, 1, 1], Fm.loop [0, 1, 0, 1, 1, 1, 1, 1, 1] 0, Fm.block 0, Fm.code [1, 1, 1, 1, 1, 1, 1]] XT.normal [(0, true, AV.str s), (3, true, AV.sl 6 es none), (6, true, AV.int IntKind.i64 to), (7, true, AV.int IntKind.i64 hd), (8, true, AV.int IntKind.i64 i), (9, true, AV.ptr 1 0)] [Blk.grow 0 3 40, Blk.mem 32 [AV.int IntKind.i64 k, AV.str nm, av, AV.str tx, AV.int IntKind.i64 fr, AV.int IntKind.i64 to]])) :
    ToEnd cfg2 5 (bodyOf Tryd.f5) (RetIs Tryd.prog Tryd.f5 v) ([.code [1, 1, 0, 0, 1, 0, 0, 1, 0, 1, 1, 1, 1, 1, 1], .block 1, .code [1, 1, 0, 0, 1, 0, 1, 1, 1, 1, 1, 1], .loop [0, 1, 0, 1, 1, 1, 1, 1, 1] 0, .block 0, .code [1, 1, 1, 1, 1, 1, 1]]) .normal ([(0, true, .str s), (3, true, .sl 6 es none), (7, true, .int .i64 hd), (8, true, .int .i64 i), (9, true, .ptr 1 0)]) ([.grow 0 3 40, .mem 32 [.int .i64 k, .str nm, av, .str tx, .int .i64 fr, .int .i64 to]]) := by
  exact unr_ok hT 100000 _ _ _ _ (show unr cfg2 5 (bodyOf Tryd.f5) (ctab [(8, tokC), (7, yesC)]) ⟨[[0, 1, 0, 1, 1, 1, 1, 1, 1], [1, 1, 1, 1, 1, 0, 0, 1, 0, 0, 1, 0, 1, 1, 1, 1, 1, 1], [1, 1, 1, 1, 1, 1, 0, 0, 1, 0, 0, 1, 0, 1, 1, 1, 1, 1, 1]], [([0, 0, 0, 1, 0, 0, 1, 0, 1, 1, 1, 1, 1, 1], 2, [.int .i64, .str, .av, .str, .int .i64, .int .i64]), ([0, 0, 1, 1, 1, 1, 0, 0, 1, 0, 0, 1, 0, 1, 1, 1, 1, 1, 1], 11, [.int .i64, .str, .av, .str, .int .i64, .int .i64]), ([0, 0, 1, 1, 1, 1, 0, 0, 1, 0, 0, 1, 0, 1, 1, 1, 1, 1, 1], 20, [.int .i64, .str, .av, .str, .int .i64, .int .i64]), ([0, 0, 1, 1, 1, 1, 0, 0, 1, 0, 0, 1, 0, 1, 1, 1, 1, 1, 1], 29, [.int .i64, .str, .av, .str, .int .i64, .int .i64]), ([0, 0, 1, 1, 1, 1, 1, 0, 0, 1, 0, 0, 1, 0, 1, 1, 1, 1, 1, 1], 10, [.int .i64, .str, .av, .str, .int .i64, .int .i64]), ([0, 0, 1, 1, 1, 1, 1, 0, 0, 1, 0, 0, 1, 0, 1, 1, 1, 1, 1, 1], 28, [.int .i64, .str, .av, .str, .int .i64, .int .i64])]⟩ (RetIs Tryd.prog Tryd.f5 v) 100000 ([.code [1, 1, 0, 0, 1, 0, 0, 1, 0, 1, 1, 1, 1, 1, 1], .block 1, .code [1, 1, 0, 0, 1, 0, 1, 1, 1, 1, 1, 1], .loop [0, 1, 0, 1, 1, 1, 1, 1, 1] 0, .block 0, .code [1, 1, 1, 1, 1, 1, 1]]) .normal ([(0, true, .str s), (3, true, .sl 6 es none), (7, true, .int .i64 hd), (8, true, .int .i64 i), (9, true, .ptr 1 0)]) ([.grow 0 3 40, .mem 32 [.int .i64 k, .str nm, av, .str tx, .int .i64 fr, .int .i64 to]]) from unr_use H (by kernel_rfl))

theorem t5c {v : AV} {s : List UInt8} {es : List (List AV)} {hd i k : Int} {nm : List UInt8} {av : AV} {tx : List UInt8} {fr to : Int} {a : Int} (hT : TabOk cfg2 (ctab [(8, tokC), (7, yesC)])) (H :
    ifP (k == 7) (ifP (i == 0) (AV.bool false = v) (gAnd (inR (IntKind.wrap IntKind.i64 (i - 1)) (List.length es) && true && true) (∃ (z1 : Int), ∃ (s2 : List UInt8), ∃ (v3 : AV), ∃ (s4 : List UInt8), ∃ (z5 : Int), ∃ (z6 : Int), getE es (IntKind.wrap IntKind.i64 (i - 1)) = [AV.int IntKind.i64 z1, AV.str s2, v3, AV.str s4, AV.int IntKind.i64 z5, AV.int IntKind.i64 z6] ∧ ifP (z1 != 2) (AV.bool false = v) (ifP (k == 1) (ifP (decide (i > 0)) (gAnd (inR (IntKind.wrap IntKind.i64 (i - 1)) (List.length es) && true && true) (∃ (z7 : Int), ∃ (s8 : List UInt8), ∃ (v9 : AV), ∃ (s10 : List UInt8), ∃ (z11 : Int), ∃ (z12 : Int), getE es (IntKind.wrap IntKind.i64 (i - 1)) = [AV.int IntKind.i64 z7, AV.str s8, v9, AV.str s10, AV.int IntKind.i64 z11, AV.int IntKind.i64 z12] ∧ ifP (z7 == 1) (AV.bool false = v) (ToEnd cfg2 5 (bodyOf Tryd.f5) (RetIs Tryd.prog Tryd.f5 v) [Fm.code [1, 1, 1, 1, 1, 1, 0, 0, 1, 0, 0, 1, 0, 1, 1, 1, 1, 1, 1], Fm.block 1, Fm.code [1, 1, 0, 0, 1, 0, 1, 1, 1, 1, 1, 1], Fm.loop [0, 1, 0, 1, 1, 1, 1, 1, 1] 0, Fm.block 0, Fm.code [1, 1, 1, 1, 1, 1, 1]] XT.normal [(0, true, AV.str s), (3, true, AV.sl 6 es none), (6, true, AV.int IntKind.i64 a), (7, true, AV.int IntKind.i64 hd), (8, true, AV.int IntKind.i64 i), (9, true, AV.ptr 1 0)] [Blk.grow 0 3 40, Blk.mem 32 [AV.int IntKind.i64 k, AV.str nm, av, AV.str tx, AV.int IntKind.i64 fr, AV.int IntKind.i64 to]]))) (ToEnd cfg2 5 (bodyOf Tryd.f5) (RetIs Tryd.prog Tryd.f5 v) [Fm.code [1, 1, 1, 1, 1, 1, 0, 0, 1, 0, 0, 1, 0, 1, 1, 1, 1, 1, 1], Fm.block 1, Fm.code [1, 1, 0, 0, 1, 0, 1, 1, 1, 1, 1, 1], Fm.loop [0, 1, 0, 1, 1, 1, 1, 1, 1] 0, Fm.block 0, Fm.code [1, 1, 1, 1, 1, 1, 1]] XT.normal [(0, true, AV.str s), (3, true, AV.sl 6 es none), (6, true, AV.int IntKind.i64 a), (7, true, AV.int IntKind.i64 hd), (8, true, AV.int IntKind.i64 i), (9, true, AV.ptr 1 0)] [Blk.grow 0 3 40, Blk.mem 32 [AV.int IntKind.i64 k, AV.str nm, av, AV.str tx, AV.int IntKind.i64 fr, AV.int IntKind.i64 to]])) (ToEnd cfg2 5 (bodyOf Tryd.f5) (RetIs Tryd.prog Tryd.f5 v) [Fm.code [1, 1, 1, 1, 1, 1, 0, 0, 1, 0, 0, 1, 0, 1, 1, 1, 1, 1, 1], Fm.block 1, Fm.code [1, 1, 0, 0, 1, 0, 1, 1, 1, 1, 1, 1], Fm.loop [0, 1, 0, 1, 1, 1, 1, 1, 1] 0, Fm.block 0, Fm.code [1, 1, 1, 1, 1, 1, 1]] XT.normal [(0, true, AV.str s), (3, true, AV.sl 6 es none), (6, true, AV.int IntKind.i64 a), (7, true, AV.int IntKind.i64 hd), (8, true, AV.int IntKind.i64 i), (9, true, AV.ptr 1 0)] [Blk.grow 0 3 40, Blk.mem 32 [AV.int IntKind.i64 k, AV.str nm, av, AV.str tx, AV.int IntKind.i64 fr, AV.int IntKind.i64 to]])))))
  (ifP (k == 1) (ifP (decide (i > 0)) (gAnd (inR (IntKind.wrap IntKind.i64 (i - 1)) (List.length es) && true && true) (∃ (z13 : Int), ∃ (s14 : List UInt8), ∃ (v15 : AV), ∃ (s16 : List UInt8), ∃ (z17 : Int), ∃ (z18 : Int), getE es (IntKind.wrap IntKind.i64 (i - 1)) = [AV.int IntKind.i64 z13, AV.str s14, v15, AV.str s16, AV.int IntKind.i64 z17, AV.int IntKind.i64 z18] ∧ ifP (z13 == 1) (AV.bool false = v) (ToEnd cfg2 5 (bodyOf Tryd.f5) (RetIs Tryd.prog Tryd.f5 v) [Fm.code [1, 1, 1, 1, 1, 1, 0, 0, 1, 0, 0, 1, 0, 1, 1, 1, 1, 1, 1], Fm.block 1, Fm.code [1, 1, 0, 0, 1, 0, 1, 1, 1, 1, 1, 1], Fm.loop [0, 1, 0, 1, 1, 1, 1, 1, 1] 0, Fm.block 0, Fm.code [1, 1, 1, 1, 1, 1, 1]] XT.normal [(0, true, AV.str s), (3, true, AV.sl 6 es none), (6, true, AV.int IntKind.i64 a), (7, true, AV.int IntKind.i64 hd), (8, true, AV.int IntKind.i64 i), (9, true, AV.ptr 1 0)] [Blk.grow 0 3 40, Blk.mem 32 [AV.int IntKind.i64 k, AV.str nm, av, AV.str tx, AV.int IntKind.i64 fr, AV.int IntKind.i64 to]]))) (ToEnd cfg2 5 (bodyOf Tryd.f5) (RetIs Tryd.prog Tryd.f5 v) [Fm.code [1, 1, 1, 1, 1, 1, 0, 0, 1, 0, 0, 1, 0, 1, 1, 1, 1, 1, 1], Fm.block 1, Fm.code [1, 1, 0, 0, 1, 0, 1, 1, 1, 1, 1, 1], Fm.loop [0, 1, 0, 1, 1, 1, 1, 1, 1] 0, Fm.block 0, Fm.code [1, 1, 1, 1, 1, 1, 1]] XT.normal [(0, true, AV.str s), (3, true, AV.sl 6 es none), (6, true, AV.int IntKind.i64 a), (7, true, AV.int IntKind.i64 hd), (8, true, AV.int IntKind.i64 i), (9, true, AV.ptr 1 0)] [Blk.grow 0 3 40, Blk.mem 32 [AV.int IntKind.i64 k, AV.str nm, av, AV.str tx, AV.int IntKind.i64 fr, AV.int IntKind.i64 to]])) (ToEnd cfg2 5 (bodyOf Tryd.f5) (RetIs Tryd.prog Tryd.f5 v) [Fm.code [1, 1, 1, 1, 1, 1, 0, 0, 1, 0, 0, 1, 0, 1, 1, 1, 1, 1, 1], Fm.block 1, Fm.code [1, 1, 0, 0, 1, 0, 1, 1, 1, 1, 1, 1], Fm.loop [0, 1, 0, 1, 1, 1, 1, 1, 1] 0, Fm.block 0, Fm.code [1, 1, 1, 1, 1, 1, 1]] XT.normal [(0, true, AV.str s), (3, true, AV.sl 6 es none), (6, true, AV.int IntKind.i64 a), (7, true, AV.int IntKind.i64 hd), (8, true, AV.int IntKind.i64 i), (9, true, AV.ptr 1 0)] [Blk.grow 0 3 40, Blk.mem 32 [AV.int IntKind.i64 k, AV.str nm, av, AV.str tx, AV.int IntKind.i64 fr, AV.int IntKind.i64 to]]))) :
    ToEnd cfg2 5 (bodyOf Tryd.f5) (RetIs Tryd.prog Tryd.f5 v) ([.code [1, 1, 1, 1, 1, 0, 0, 1, 0, 0, 1, 0, 1, 1, 1, 1, 1, 1], .block 1, .code [1, 1, 0, 0, 1, 0, 1, 1, 1, 1, 1, 1], .loop [0, 1, 0, 1, 1, 1, 1, 1, 1] 0, .block 0, .code [1, 1, 1, 1, 1, 1, 1]]) .normal ([(0, true, .str s), (3, true, .sl 6 es none), (6, true, .int .i64 a), (7, true, .int .i64 hd), (8, true, .int .i64 i), (9, true, .ptr 1 0)]) ([.grow 0 3 40, .mem 32 [.int .i64 k, .str nm, av, .str tx, .int .i64 fr, .int .i64 to]]) := by
  exact unr_ok hT 100000 _ _ _ _ (show unr cfg2 5 (bodyOf Tryd.f5) (ctab [(8, tokC), (7, yesC)]) ⟨[[0, 1, 0, 1, 1, 1, 1, 1, 1], [1, 1, 1, 1, 1, 1, 0, 0, 1, 0, 0, 1, 0, 1, 1, 1, 1, 1, 1]], [([0, 0, 0, 1, 0, 0, 1, 0, 1, 1, 1, 1, 1, 1], 2, [.int .i64, .str, .av, .str, .int .i64, .int .i64]), ([0, 0, 1, 1, 1, 1, 0, 0, 1, 0, 0, 1, 0, 1, 1, 1, 1, 1, 1], 11, [.int .i64, .str, .av, .str, .int .i64, .int .i64]), ([0, 0, 1, 1, 1, 1, 0, 0, 1, 0, 0, 1, 0, 1, 1, 1, 1, 1, 1], 20, [.int .i64, .str, .av, .str, .int .i64, .int .i64]), ([0, 0, 1, 1, 1, 1, 0, 0, 1, 0, 0, 1, 0, 1, 1, 1, 1, 1, 1], 29, [.int .i64, .str, .av, .str, .int .i64, .int .i64]), ([0, 0, 1, 1, 1, 1, 1, 0, 0, 1, 0, 0, 1, 0, 1, 1, 1, 1, 1, 1], 10, [.int .i64, .str, .av, .str, .int .i64, .int .i64]), ([0, 0, 1, 1, 1, 1, 1, 0, 0, 1, 0, 0, 1, 0, 1, 1, 1, 1, 1, 1], 28, [.int .i64, .str, .av, .str, .int .i64, .int .i64])]⟩ (RetIs Tryd.prog Tryd.f5 v) 100000 ([.code [1, 1, 1, 1, 1, 0, 0, 1, 0, 0, 1, 0, 1, 1, 1, 1, 1, 1], .block 1, .code [1, 1, 0, 0, 1, 0, 1, 1, 1, 1, 1, 1], .loop [0, 1, 0, 1, 1, 1, 1, 1, 1] 0, .block 0, .code [1, 1, 1, 1, 1, 1, 1]]) .normal ([(0, true, .str s), (3, true, .sl 6 es none), (6, true, .int .i64 a), (7, true, .int .i64 hd), (8, true, .int .i64 i), (9, true, .ptr 1 0)]) ([.grow 0 3 40, .mem 32 [.int .i64 k, .str nm, av, .str tx, .int .i64 fr, .int .i64 to]]) from unr_use H (by kernel_rfl))

theorem t5d {v : AV} {s : List UInt8} {es : List (List AV)} {hd i k : Int} {nm : List UInt8} {av : AV} {tx : List UInt8} {fr to : Int} {a : Int} (hT : TabOk cfg2 (ctab [(8, tokC), (7, yesC)])) (H :
    ifP (k == 5) (ifP (k == 6) (ifP (decide (IntKind.wrap IntKind.i64 (IntKind.wrap IntKind.i64 (hd + 1) - 1) < 0)) (AV.bool false = v) (ifP (decide (IntKind.wrap IntKind.i64 (IntKind.wrap IntKind.i64 (hd + 1) - 1) > 1)) (AV.bool false = v) (gAnd (lowVss 0 es && true && true && true) (ToEnd cfg2 5 (bodyOf Tryd.f5) (RetIs Tryd.prog Tryd.f5 v) [Fm.code [0, 1, 0, 1, 1, 1, 1, 1, 1], Fm.block 0, Fm.code [1, 1, 1, 1, 1, 1, 1]] XT.normal [(0, true, AV.str s), (3, true, AV.sl 6 es none), (6, true, AV.int IntKind.i64 a), (7, true, AV.int IntKind.i64 (IntKind.wrap IntKind.i64 (IntKind.wrap IntKind.i64 (hd + 1) - 1))), (8, true, AV.int IntKind.i64 (IntKind.wrap IntKind.i64 (i + 1)))] [])))) (ifP (decide (IntKind.wrap IntKind.i64 (hd + 1) < 0)) (AV.bool false = v) (ifP (decide (IntKind.wrap IntKind.i64 (hd + 1) > 1)) (AV.bool false = v) (gAnd (lowVss 0 es && true && true && true) (ToEnd cfg2 5 (bodyOf Tryd.f5) (RetIs Tryd.prog Tryd.f5 v) [Fm.code [0, 1, 0, 1, 1, 1, 1, 1, 1], Fm.block 0, Fm.code [1, 1, 1, 1, 1, 1, 1]] XT.normal [(0, true, AV.str s), (3, true, AV.sl 6 es none), (6, true, AV.int IntKind.i64 a), (7, true, AV.int IntKind.i64 (IntKind.wrap IntKind.i64 (hd + 1))), (8, true, AV.int IntKind.i64 (IntKind.wrap IntKind.i64 (i + 1)))] []))))) (ifP (k == 6) (ifP (decide (IntKind.wrap IntKind.i64 (hd - 1) < 0)) (AV.bool false = v) (ifP (decide (IntKind.wrap IntKind.i64 (hd - 1) > 1)) (AV.bool false = v) (gAnd (lowVss 0 es && true && true && true) (ToEnd cfg2 5 (bodyOf Tryd.f5) (RetIs Tryd.prog Tryd.f5 v) [Fm.code [0, 1, 0, 1, 1, 1, 1, 1, 1], Fm.block 0, Fm.code [1, 1, 1, 1, 1, 1, 1]] XT.normal [(0, true, AV.str s), (3, true, AV.sl 6 es none), (6, true, AV.int IntKind.i64 a), (7, true, AV.int IntKind.i64 (IntKind.wrap IntKind.i64 (hd - 1))), (8, true, AV.int IntKind.i64 (IntKind.wrap IntKind.i64 (i + 1)))] [])))) (ifP (decide (hd < 0)) (AV.bool false = v) (ifP (decide (hd > 1)) (AV.bool false = v) (gAnd (lowVss 0 es && true && true && true) (ToEnd cfg2 5 (bodyOf Tryd.f5) (RetIs Tryd.prog Tryd.f5 v) [Fm.code [0, 1, 0, 1, 1, 1, 1, 1, 1], Fm.block 0, Fm.code [1, 1, 1, 1, 1, 1, 1]] XT.normal [(0, true, AV.str s), (3, true, AV.sl 6 es none), (6, true, AV.int IntKind.i64 a), (7, true, AV.int IntKind.i64 hd), (8, true, AV.int IntKind.i64 (IntKind.wrap IntKind.i64 (i + 1)))] [])))))) :
    ToEnd cfg2 5 (bodyOf Tryd.f5) (RetIs Tryd.prog Tryd.f5 v) ([.code [1, 1, 1, 1, 1, 1, 0, 0, 1, 0, 0, 1, 0, 1, 1, 1, 1, 1, 1], .block 1, .code [1, 1, 0, 0, 1, 0, 1, 1, 1, 1, 1, 1], .loop [0, 1, 0, 1, 1, 1, 1, 1, 1] 0, .block 0, .code [1, 1, 1, 1, 1, 1, 1]]) .normal ([(0, true, .str s), (3, true, .sl 6 es none), (6, true, .int .i64 a), (7, true, .int .i64 hd), (8, true, .int .i64 i), (9, true, .ptr 1 0)]) ([.grow 0 3 40, .mem 32 [.int .i64 k, .str nm, av, .str tx, .int .i64 fr, .int .i64 to]]) := by
  exact unr_ok hT 100000 _ _ _ _ (show unr cfg2 5 (bodyOf Tryd.f5) (ctab [(8, tokC), (7, yesC)]) ⟨[[0, 1, 0, 1, 1, 1, 1, 1, 1]], [([0, 0, 0, 1, 0, 0, 1, 0, 1, 1, 1, 1, 1, 1], 2, [.int .i64, .str, .av, .str, .int .i64, .int .i64]), ([0, 0, 1, 1, 1, 1, 0, 0, 1, 0, 0, 1, 0, 1, 1, 1, 1, 1, 1], 11, [.int .i64, .str, .av, .str, .int .i64, .int .i64]), ([0, 0, 1, 1, 1, 1, 0, 0, 1, 0, 0, 1, 0, 1, 1, 1, 1, 1, 1], 20, [.int .i64, .str, .av, .str, .int .i64, .int .i64]), ([0, 0, 1, 1, 1, 1, 0, 0, 1, 0, 0, 1, 0, 1, 1, 1, 1, 1, 1], 29, [.int .i64, .str, .av, .str, .int .i64, .int .i64]), ([0, 0, 1, 1, 1, 1, 1, 0, 0, 1, 0, 0, 1, 0, 1, 1, 1, 1, 1, 1], 10, [.int .i64, .str, .av, .str, .int .i64, .int .i64]), ([0, 0, 1, 1, 1, 1, 1, 0, 0, 1, 0, 0, 1, 0, 1, 1, 1, 1, 1, 1], 28, [.int .i64, .str, .av, .str, .int .i64, .int .i64])]⟩ (RetIs Tryd.prog Tryd.f5 v) 100000 ([.code [1, 1, 1, 1, 1, 1, 0, 0, 1, 0, 0, 1, 0, 1, 1, 1, 1, 1, 1], .block 1, .code [1, 1, 0, 0, 1, 0, 1, 1, 1, 1, 1, 1], .loop [0, 1, 0, 1, 1, 1, 1, 1, 1] 0, .block 0, .code [1, 1, 1, 1, 1, 1, 1]]) .normal ([(0, true, .str s), (3, true, .sl 6 es none), (6, true, .int .i64 a), (7, true, .int .i64 hd), (8, true, .int .i64 i), (9, true, .ptr 1 0)]) ([.grow 0 3 40, .mem 32 [.int .i64 k, .str nm, av, .str tx, .int .i64 fr, .int .i64 to]]) from unr_use H (by kernel_rfl))

end Go.Proofs.YtolmmodgneodbaaDoor
end

section
namespace Go.Proofs.YtolmmodgneodbaaDoor
open Go.Ai Go Go.Ai.Ex
set_option linter.unusedSimpArgs false
set_option linter.unusedVariables false
set_option maxRecDepth 100000
theorem c8k : COk cfg2 8 tokC := by
  refine cok_prim (g := lexP) (by kernel_rfl) (by kernel_rfl) (by kernel_rfl) (by kernel_rfl) fun vs h K ht => ?_
  obtain ⟨s, hs, rfl, h1, h2⟩ := ht
  refine ⟨lexV (lexM s), ?_, by show some (Nat.ble s.length 1000000, lexV (lexM s)) = _; rw [show Nat.ble s.length 1000000 = true from Nat.ble_eq_true_of_le hs]⟩
  cases hl : lexM s with
  | error x =>
    obtain ⟨p, e⟩ := x
    exact h1 p e hl
  | ok l =>
    show K (AV.tup [.sl 6 (stripss 0 [] (encTs l)) none, .int .i64 0, .int .i64 0]) h
    rw [stripss_low 0 [] _ (low_ts 0 l)]
    exact h2 l hl
theorem pf5k : pureFn cfg2 5 Tryd.f5 := ⟨by kernel_rfl, by kernel_rfl, by kernel_rfl, by kernel_rfl, by kernel_rfl, by kernel_rfl⟩
theorem tab5 : TabOk cfg2 (ctab [(8, tokC), (7, yesC)]) := ctab_ok (ctab_cons c8k (ctab_cons c7 ctab_nil))
theorem get_mid (p : List Tok) (t : Tok) (r : List Tok) {i : Int} (hi : i = p.length) : inR i (encTs (p ++ t :: r)).length = true ∧ getE (encTs (p ++ t :: r)) i = encT t := by
  subst hi
  have hl : p.length < (p ++ t :: r).length := by simp
  refine ⟨?_, ?_⟩
  · rw [encTs, List.length_map]; exact inR_nat hl
  · rw [encTs, getE_map encT _ hl]
    simp
theorem get_last {p : List Tok} {q : Tok} (h : p.getLast? = some q) (r : List Tok) {i : Int} (hi : i = (p.length : Int) - 1) : inR i (encTs (p ++ r)).length = true ∧ getE (encTs (p ++ r)) i = encT q := by
  obtain ⟨z, rfl⟩ := List.getLast?_eq_some_iff.1 h
  rw [List.append_assoc, List.singleton_append]
  exact get_mid z q r (by rw [hi]; simp)
def hb (b : Bool) : Int := if b = true then 1 else 0
theorem whole_loop {s : List UInt8} (hs : s.length ≤ 6000) : ∀ (r p : List Tok) (a : Nat) (hid : Bool), WG s a p.getLast? hid r → p.length + r.length ≤ 20000 → a ≤ s.length →
    ToEnd cfg2 5 (bodyOf Tryd.f5) (RetIs Tryd.prog Tryd.f5 (.bool true)) [.code [0, 1, 0, 1, 1, 1, 1, 1, 1], .block 0, .code [1, 1, 1, 1, 1, 1, 1]] .normal [(0, true, .str s), (3, true, .sl 6 (encTs (p ++ r)) none), (6, true, .int .i64 a), (7, true, .int .i64 (hb hid)), (8, true, .int .i64 p.length)] []
  | [], p, a, hid, h, hl, ha => by
    obtain ⟨rfl, rfl⟩ := h
    refine t5a tab5 (ifP_intro (fun x => ?_) fun _ => ifP_intro (fun _ => ifP_intro (fun _ => ⟨rfl, rfl⟩) fun x => ?_) fun x => ?_)
    · simp [encTs] at x
    · simp [hb] at x
    · simp at x
  | t :: r, p, a, hid, h, hl, ha => by
    obtain ⟨h1, h2, h3, h4, h5, h6, h7, h8, h9, h10, h11⟩ := h
    obtain ⟨g1, g2⟩ := get_mid p t r rfl
    obtain ⟨q1, q2⟩ := cut_cutL s h2 h3
    rw [List.length_cons] at hl
    have ih := whole_loop hs r (p ++ [t]) t.to _ (by rw [List.getLast?_append]; exact h11) (by simp; omega) h3
    have elen : (encTs (p ++ t :: r)).length = p.length + (r.length + 1) := by simp [encTs]
    have ih : ToEnd cfg2 5 (bodyOf Tryd.f5) (RetIs Tryd.prog Tryd.f5 (.bool true)) [.code [0, 1, 0, 1, 1, 1, 1, 1, 1], .block 0, .code [1, 1, 1, 1, 1, 1, 1]] .normal [(0, true, .str s), (3, true, .sl 6 (encTs (p ++ t :: r)) none), (6, true, .int .i64 t.to), (7, true, .int .i64 (hb (if t.kind = 5 then true else if t.kind = 6 then false else hid))), (8, true, .int .i64 (IntKind.wrap .i64 ((p.length : Int) + 1)))] [] := by
      rw [wrap_in (by omega) (by omega)]
      simpa using ih
    -- the last part of the round
    have tail : ToEnd cfg2 5 (bodyOf Tryd.f5) (RetIs Tryd.prog Tryd.f5 (.bool true)) [.code [1, 1, 1, 1, 1, 1, 0, 0, 1, 0, 0, 1, 0, 1, 1, 1, 1, 1, 1], .block 1, .code [1, 1, 0, 0, 1, 0, 1, 1, 1, 1, 1, 1], .loop [0, 1, 0, 1, 1, 1, 1, 1, 1] 0, .block 0, .code [1, 1, 1, 1, 1, 1, 1]] .normal
        [(0, true, .str s), (3, true, .sl 6 (encTs (p ++ t :: r)) none), (6, true, .int .i64 t.to), (7, true, .int .i64 (hb hid)), (8, true, .int .i64 p.length), (9, true, .ptr 1 0)] [.grow 0 3 40, .mem 32 [.int .i64 t.kind, .str t.name, .sl 3 (encAs t.attrs) none, .str t.text, .int .i64 t.fr, .int .i64 t.to]] := by
      refine t5d tab5 (ifP_intro (fun x => ifP_intro (fun y => ?_) fun y => ?_) fun x => ifP_intro (fun y => ?_) fun y => ?_)
      · simp at x y; omega
      · simp at x
        obtain rfl := h9 x
        rw [if_pos x] at ih
        refine ifP_intro (fun z => ?_) fun _ => ifP_intro (fun z => ?_) fun _ => gAnd_intro (by rw [low_ts]; rfl) ?_
        · rw [show hb false = 0 from rfl, wrap_in (by omega) (by omega)] at z; simp at z
        · rw [show hb false = 0 from rfl, wrap_in (by omega) (by omega)] at z; simp at z
        · rw [show hb false = 0 from rfl, wrap_in (by omega) (by omega)]
          exact ih
      · simp at x y
        obtain rfl := h10 y
        rw [if_neg x, if_pos y] at ih
        refine ifP_intro (fun z => ?_) fun _ => ifP_intro (fun z => ?_) fun _ => gAnd_intro (by rw [low_ts]; rfl) ?_
        · rw [show hb true = 1 from rfl, wrap_in (by omega) (by omega)] at z; simp at z
        · rw [show hb true = 1 from rfl, wrap_in (by omega) (by omega)] at z; simp at z
        · rw [show hb true = 1 from rfl, wrap_in (by omega) (by omega)]
          exact ih
      · simp at x y
        rw [if_neg x, if_neg y] at ih
        refine ifP_intro (fun z => ?_) fun _ => ifP_intro (fun z => ?_) fun _ => gAnd_intro (by rw [low_ts]; rfl) ih
        · cases hid <;> simp [hb] at z
        · cases hid <;> simp [hb] at z
    have mid : ToEnd cfg2 5 (bodyOf Tryd.f5) (RetIs Tryd.prog Tryd.f5 (.bool true)) [.code [1, 1, 1, 1, 1, 0, 0, 1, 0, 0, 1, 0, 1, 1, 1, 1, 1, 1], .block 1, .code [1, 1, 0, 0, 1, 0, 1, 1, 1, 1, 1, 1], .loop [0, 1, 0, 1, 1, 1, 1, 1, 1] 0, .block 0, .code [1, 1, 1, 1, 1, 1, 1]] .normal
        [(0, true, .str s), (3, true, .sl 6 (encTs (p ++ t :: r)) none), (6, true, .int .i64 t.to), (7, true, .int .i64 (hb hid)), (8, true, .int .i64 p.length), (9, true, .ptr 1 0)] [.grow 0 3 40, .mem 32 [.int .i64 t.kind, .str t.name, .sl 3 (encAs t.attrs) none, .str t.text, .int .i64 t.fr, .int .i64 t.to]] := by
      have hw : IntKind.wrap .i64 ((p.length : Int) - 1) = (p.length : Int) - 1 := wrap_in (by omega) (by omega)
      have one : ∀ {P : Prop}, P → (t.kind = 1 → P ∨ True) := fun h _ => .inl h
      have text : ifP (t.kind == 1) (ifP (decide ((p.length : Int) > 0)) (gAnd (inR (IntKind.wrap .i64 ((p.length : Int) - 1)) (encTs (p ++ t :: r)).length && true && true) (∃ (z7 : Int), ∃ (s8 : List UInt8), ∃ (v9 : AV), ∃ (s10 : List UInt8), ∃ (z11 : Int), ∃ (z12 : Int), getE (encTs (p ++ t :: r)) (IntKind.wrap .i64 ((p.length : Int) - 1)) = [.int .i64 z7, .str s8, v9, .str s10, .int .i64 z11, .int .i64 z12] ∧ ifP (z7 == 1) (AV.bool false = AV.bool true) (ToEnd cfg2 5 (bodyOf Tryd.f5) (RetIs Tryd.prog Tryd.f5 (.bool true)) [.code [1, 1, 1, 1, 1, 1, 0, 0, 1, 0, 0, 1, 0, 1, 1, 1, 1, 1, 1], .block 1, .code [1, 1, 0, 0, 1, 0, 1, 1, 1, 1, 1, 1], .loop [0, 1, 0, 1, 1, 1, 1, 1, 1] 0, .block 0, .code [1, 1, 1, 1, 1, 1, 1]] .normal
        [(0, true, .str s), (3, true, .sl 6 (encTs (p ++ t :: r)) none), (6, true, .int .i64 t.to), (7, true, .int .i64 (hb hid)), (8, true, .int .i64 p.length), (9, true, .ptr 1 0)] [.grow 0 3 40, .mem 32 [.int .i64 t.kind, .str t.name, .sl 3 (encAs t.attrs) none, .str t.text, .int .i64 t.fr, .int .i64 t.to]]))) (ToEnd cfg2 5 (bodyOf Tryd.f5) (RetIs Tryd.prog Tryd.f5 (.bool true)) [.code [1, 1, 1, 1, 1, 1, 0, 0, 1, 0, 0, 1, 0, 1, 1, 1, 1, 1, 1], .block 1, .code [1, 1, 0, 0, 1, 0, 1, 1, 1, 1, 1, 1], .loop [0, 1, 0, 1, 1, 1, 1, 1, 1] 0, .block 0, .code [1, 1, 1, 1, 1, 1, 1]] .normal
        [(0, true, .str s), (3, true, .sl 6 (encTs (p ++ t :: r)) none), (6, true, .int .i64 t.to), (7, true, .int .i64 (hb hid)), (8, true, .int .i64 p.length), (9, true, .ptr 1 0)] [.grow 0 3 40, .mem 32 [.int .i64 t.kind, .str t.name, .sl 3 (encAs t.attrs) none, .str t.text, .int .i64 t.fr, .int .i64 t.to]]))
        (ToEnd cfg2 5 (bodyOf Tryd.f5) (RetIs Tryd.prog Tryd.f5 (.bool true)) [.code [1, 1, 1, 1, 1, 1, 0, 0, 1, 0, 0, 1, 0, 1, 1, 1, 1, 1, 1], .block 1, .code [1, 1, 0, 0, 1, 0, 1, 1, 1, 1, 1, 1], .loop [0, 1, 0, 1, 1, 1, 1, 1, 1] 0, .block 0, .code [1, 1, 1, 1, 1, 1, 1]] .normal
        [(0, true, .str s), (3, true, .sl 6 (encTs (p ++ t :: r)) none), (6, true, .int .i64 t.to), (7, true, .int .i64 (hb hid)), (8, true, .int .i64 p.length), (9, true, .ptr 1 0)] [.grow 0 3 40, .mem 32 [.int .i64 t.kind, .str t.name, .sl 3 (encAs t.attrs) none, .str t.text, .int .i64 t.fr, .int .i64 t.to]]) := by
        refine ifP_intro (fun x => ifP_intro (fun y => ?_) fun _ => tail) fun _ => tail
        have hk : t.kind = 1 := by simpa using x
        have hp : p ≠ [] := by rintro rfl; simp at y
        have hq : p.getLast? = some (p.getLast hp) := List.getLast?_eq_some_getLast hp
        obtain ⟨g3, g4⟩ := get_last hq (t :: r) rfl
        rw [hw]
        refine gAnd_intro (by rw [g3]; rfl) ⟨_, _, _, _, _, _, g4, ifP_intro (fun z => ?_) fun _ => tail⟩
        exact absurd (by simpa using z) (h8 hk _ hq)
      refine t5c tab5 (ifP_intro (fun x => ?_) fun _ => text)
      have hk : t.kind = 7 := by simpa using x
      obtain ⟨q, hq, hq2⟩ := h7 hk
      have hp : 0 < p.length := by
        rcases p with _ | ⟨b, p⟩
        · cases hq
        · simp
      obtain ⟨g3, g4⟩ := get_last hq (t :: r) rfl
      refine ifP_intro (fun y => ?_) fun _ => ?_
      · have : (p.length : Int) = 0 := by simpa using y
        omega
      · refine gAnd_intro (by rw [hw, g3]; rfl) ⟨_, _, _, _, _, _, by rw [hw]; exact g4, ifP_intro (fun z => ?_) fun _ => text⟩
        simp [hq2] at z
    refine t5a tab5 (ifP_intro (fun _ => gAnd_intro (by rw [g1]; rfl) ⟨_, _, _, _, _, _, g2, ?_⟩) fun x => ?_)
    · refine ifP_intro (fun x => ?_) fun _ => ifP_intro (fun x => ?_) fun _ => ifP_intro (fun x => ?_) fun _ => gAnd_intro q2 (ifP_intro (fun x => ?_) fun _ => ?_)
      · simp [h1] at x
      · simp at x; omega
      · simp at x; omega
      · rw [q1, h4] at x; simp at x
      · have body : ToEnd cfg2 5 (bodyOf Tryd.f5) (RetIs Tryd.prog Tryd.f5 (.bool true)) [.code [1, 1, 0, 0, 1, 0, 0, 1, 0, 1, 1, 1, 1, 1, 1], .block 1, .code [1, 1, 0, 0, 1, 0, 1, 1, 1, 1, 1, 1], .loop [0, 1, 0, 1, 1, 1, 1, 1, 1] 0, .block 0, .code [1, 1, 1, 1, 1, 1, 1]] .normal
            [(0, true, .str s), (3, true, .sl 6 (encTs (p ++ t :: r)) none), (7, true, .int .i64 (hb hid)), (8, true, .int .i64 p.length), (9, true, .ptr 1 0)] [.grow 0 3 40, .mem 32 [.int .i64 t.kind, .str t.name, .sl 3 (encAs t.attrs) none, .str t.text, .int .i64 t.fr, .int .i64 t.to]] := by
          have own : ∀ (hk : t.kind = 2) (hn : t.name = removeS ∨ t.name = inlineS), ∃ a b q, r = a :: b :: q ∧ a.kind = 7 ∧ b.kind = 4 ∧ b.name = t.name := fun hk hn => h6 (by unfold ownB; rcases hn with e | e <;> simp [hk, e])
          have hw1 : IntKind.wrap .i64 ((p.length : Int) + 1) = ((p ++ [t]).length : Int) := by rw [wrap_in (by omega) (by omega)]; simp
          have hw2 : ∀ x : Tok, IntKind.wrap .i64 ((p.length : Int) + 2) = ((p ++ [t, x]).length : Int) := fun x => by rw [wrap_in (by omega) (by omega)]; simp
          have part : ∀ (hk : t.kind = 2) (hn : t.name = removeS ∨ t.name = inlineS), ifP (decide (IntKind.wrap .i64 ((p.length : Int) + 2) ≥ ((encTs (p ++ t :: r)).length : Int))) (AV.bool false = AV.bool true) (gAnd (inR (IntKind.wrap .i64 ((p.length : Int) + 1)) (encTs (p ++ t :: r)).length && true && true) (∃ (z1 : Int), ∃ (s2 : List UInt8), ∃ (v3 : AV), ∃ (s4 : List UInt8), ∃ (z5 : Int), ∃ (z6 : Int), getE (encTs (p ++ t :: r)) (IntKind.wrap .i64 ((p.length : Int) + 1)) = [.int .i64 z1, .str s2, v3, .str s4, .int .i64 z5, .int .i64 z6] ∧ ifP (z1 != 7) (AV.bool false = AV.bool true) (gAnd (inR (IntKind.wrap .i64 ((p.length : Int) + 2)) (encTs (p ++ t :: r)).length && true && true) (∃ (z7 : Int), ∃ (s8 : List UInt8), ∃ (v9 : AV), ∃ (s10 : List UInt8), ∃ (z11 : Int), ∃ (z12 : Int), getE (encTs (p ++ t :: r)) (IntKind.wrap .i64 ((p.length : Int) + 2)) = [.int .i64 z7, .str s8, v9, .str s10, .int .i64 z11, .int .i64 z12] ∧ ifP (z7 != 4) (AV.bool false = AV.bool true) (gAnd (inR (IntKind.wrap .i64 ((p.length : Int) + 2)) (encTs (p ++ t :: r)).length && true && true) (∃ (z13 : Int), ∃ (s14 : List UInt8), ∃ (v15 : AV), ∃ (s16 : List UInt8), ∃ (z17 : Int), ∃ (z18 : Int), getE (encTs (p ++ t :: r)) (IntKind.wrap .i64 ((p.length : Int) + 2)) = [.int .i64 z13, .str s14, v15, .str s16, .int .i64 z17, .int .i64 z18] ∧ ifP (!s14 == t.name) (AV.bool false = AV.bool true) (ToEnd cfg2 5 (bodyOf Tryd.f5) (RetIs Tryd.prog Tryd.f5 (.bool true)) [.code [1, 1, 1, 1, 1, 0, 0, 1, 0, 0, 1, 0, 1, 1, 1, 1, 1, 1], .block 1, .code [1, 1, 0, 0, 1, 0, 1, 1, 1, 1, 1, 1], .loop [0, 1, 0, 1, 1, 1, 1, 1, 1] 0, .block 0, .code [1, 1, 1, 1, 1, 1, 1]] .normal
            [(0, true, .str s), (3, true, .sl 6 (encTs (p ++ t :: r)) none), (6, true, .int .i64 t.to), (7, true, .int .i64 (hb hid)), (8, true, .int .i64 p.length), (9, true, .ptr 1 0)] [.grow 0 3 40, .mem 32 [.int .i64 t.kind, .str t.name, .sl 3 (encAs t.attrs) none, .str t.text, .int .i64 t.fr, .int .i64 t.to]]))))))) := by
            intro hk hn
            obtain ⟨x, y, z, rfl, e1, e2, e3⟩ := own hk hn
            obtain ⟨g3, g4⟩ := get_mid (p ++ [t]) x (y :: z) hw1
            obtain ⟨g5, g6⟩ := get_mid (p ++ [t, x]) y z (hw2 x)
            simp only [List.append_assoc, List.cons_append, List.nil_append] at g3 g4 g5 g6
            refine ifP_intro (fun q => ?_) fun _ => gAnd_intro (by rw [g3]; rfl) ⟨_, _, _, _, _, _, g4, ifP_intro (fun q => ?_) fun _ => gAnd_intro (by rw [g5]; rfl) ⟨_, _, _, _, _, _, g6, ifP_intro (fun q => ?_) fun _ => gAnd_intro (by rw [g5]; rfl) ⟨_, _, _, _, _, _, g6, ifP_intro (fun q => ?_) fun _ => mid⟩⟩⟩
            · rw [elen, wrap_in (by omega) (by omega)] at q
              simp at q; omega
            · simp [e1] at q
            · simp [e2] at q
            · simp [e3] at q
          refine t5b tab5 (ifP_intro (fun x => ifP_intro (fun y => ?_) fun _ => ifP_intro (fun y => ?_) fun _ => mid) fun _ => mid)
          · exact part (by simpa using x) (.inl (by simpa [removeS] using y))
          · exact part (by simpa using x) (.inr (by simpa [inlineS] using y))
        refine ifP_intro (fun x => ifP_intro (fun y => ?_) fun _ => body) fun _ => body
        have : t.kind = 7 := h5 (by simpa using x)
        simp [this] at y
    · rw [elen] at x
      simp at x; omega
theorem c5 : COk cfg2 5 (fun vs h K => ∃ s : List UInt8, vs = [.str s] ∧ K (.bool true) h) := by
  refine cok_pure pf5k fun vs h K ht => ?_
  obtain ⟨s, rfl, hk⟩ := ht
  refine ⟨_, hk, t5 tab5 (ifP_intro (fun _ => ⟨rfl, rfl⟩) fun x => ?_)⟩
  have hs : s.length ≤ 6000 := by simp at x; omega
  refine ⟨s, by omega, rfl, fun p e he => ?_, fun l hl => ?_⟩
  · refine ifP_intro (fun _ => ifP_intro (fun _ => ⟨rfl, rfl⟩) fun y => ?_) fun y => ?_
    · have := lexM_bad he
      simp at y; omega
    · exact absurd (by simpa using y) (lexM_e he)
  · have hw := lexM_whole hl
    have hn : l.length ≤ 20000 := by rcases WG_len l 0 none false hw (by omega) with h | ⟨_, h⟩ <;> omega
    exact whole_loop hs l [] 0 false hw (by simpa using hn) (by omega)
end Go.Proofs.YtolmmodgneodbaaDoor
end

section
namespace Go.Proofs.YtolmmodgneodbaaDoor
open Go.Ai Go Go.Ai.Ex
set_option maxRecDepth 100000
theorem arg_string {n : Nat} {v : AV} (h : argOf Tryd.prog n 9 v) : ∃ s : List UInt8, s.length ≤ maxLen ∧ v = .str s := by
  cases n with
  | zero => exact False.elim h
  | succ n =>
    have h' : wt Tryd.prog (n + 1) 9 [v] := h
    simp only [wt, Tryd.underlying9] at h'
    obtain ⟨s, h1, h2⟩ := h'
    injection h2 with h2 _
    exact ⟨s, h1, h2⟩
end Go.Proofs.YtolmmodgneodbaaDoor
end
