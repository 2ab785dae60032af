/-
  Pieces of a page's text, in plain terms: written in one form a piece is no longer than it was. No statement about the program is made here.
  Runs of the functions of a page's pieces, printed by a home tool; each is the kernel's word.
  Pieces of a page's text: written one behind the other, each in one form, they are the same pieces. The row's function under contract.
-/
import Derived.Test.YtolmmodgneodbaaDoorJEw
import Derived.Test.YtolmmodgneodbaaDoorJEo
import Derived.Test.YtolmmodgneodbaaDoorJEk
section
namespace Go.Ai.Ex
open Go.Ai Go.RowKit
set_option linter.unusedVariables false
set_option linter.unusedSimpArgs false
def fits (t : Tok) : Prop := (written t).length + t.fr ≤ t.to ∧ (t.attrs = [] ∨ t.kind = 2 ∨ t.kind = 3)
theorem attrsS_app (l r : List Att) : (attrsS (l ++ r)).length = (attrsS l).length + (attrsS r).length := by
  induction l with
  | nil => simp [attrsS]
  | cons a l ih =>
    simp only [List.cons_append, attrsS, List.length_cons, List.length_append, ih]
    omega
theorem attrsS_append (l r : List Att) : attrsS (l ++ r) = attrsS l ++ attrsS r := by
  induction l with
  | nil => rfl
  | cons a l ih => simp [attrsS, ih]
theorem attrM_len {s : List UInt8} {at' tag : Nat} {l : List Att} {a : Att} {b : Nat} (h : attrM s at' tag l = .ok (a, b)) : (attrsS [a]).length + at' ≤ b + 1 := by
  unfold attrM at h
  simp only at h
  repeat' split at h
  all_goals try (cases h; done)
  simp only [Except.ok.injEq, Prod.mk.injEq] at h
  obtain ⟨rfl, rfl⟩ := h
  simp only [attrsS, List.length_cons, List.length_append, List.length_take, List.length_nil]
  omega
theorem attrsM_len {s : List UInt8} {tag : Nat} : ∀ (f at' : Nat) (l l' : List Att) (b : Nat), at' ≤ s.length → attrsM s tag f at' l = .ok (l', b) → (attrsS l').length + at' ≤ (attrsS l).length + b
  | 0, at', l, l', b, _, h => by cases h
  | f + 1, at', l, l', b, ha, h => by
    obtain ⟨p1, p2⟩ := past_le ha
    unfold attrsM at h
    simp only at h
    split at h
    · cases h
    · split at h
      · simp only [Except.ok.injEq, Prod.mk.injEq] at h
        obtain ⟨rfl, rfl⟩ := h
        omega
      · split at h
        · cases h
        · rename_i hne
          split at h
          · cases h
          · rename_i a c hc
            obtain ⟨q1, q2⟩ := attrM_ok hc
            have h1 := attrM_len hc
            have h2 := attrsM_len f c _ l' b q2 h
            rw [attrsS_app] at h2
            omega
theorem openM_fit {s : List UInt8} {tag : Nat} {t : Tok} (hl : tag + 5 ≤ s.length) (h : openM s tag = .ok t) : fits t := by
  unfold openM at h
  simp only at h
  split at h
  · cases h
  · have hn := lets_le s (tag + 5)
    split at h
    · cases h
    · rename_i l b hb
      have hlen := attrsM_len _ _ _ _ _ (by omega) hb
      simp only [attrsS, List.length_nil, Nat.zero_add] at hlen
      unfold tagEnd at h
      simp only at h
      generalize hk : (if s.getD b 0 = 47 then 1 else 0 : Nat) = k at h
      split at h
      · cases h
      · split at h
        · cases h
        · simp only [Except.ok.injEq] at h
          subst h
          refine ⟨?_, .inr (by by_cases k1 : k = 1 <;> simp [k1])⟩
          unfold written
          by_cases k1 : k = 1
          · simp only [if_pos k1]
            rw [if_neg (by decide), if_neg (by decide), if_neg (by decide), if_pos trivial]
            simp only [List.length_append, List.length_take, List.length_drop, opensS, List.length_cons, List.length_nil]
            omega
          · simp only [if_neg k1]
            rw [if_neg (by decide), if_neg (by decide), if_pos trivial]
            simp only [List.length_append, List.length_take, List.length_drop, opensS, List.length_cons, List.length_nil]
            omega
theorem closeM_fit {s : List UInt8} {tag : Nat} {t : Tok} (hl : tag + 6 ≤ s.length) (h : closeM s tag = .ok t) : fits t := by
  unfold closeM at h
  simp only at h
  split at h
  · cases h
  · have hn := lets_le s (tag + 6)
    obtain ⟨q1, q2⟩ := past_le (s := s) (a := tag + 6 + lets s (tag + 6)) (by omega)
    split at h
    · cases h
    · split at h
      · cases h
      · simp only [Except.ok.injEq] at h
        subst h
        refine ⟨?_, .inl rfl⟩
        unfold written
        rw [if_pos rfl]
        simp only [List.length_append, List.length_take, List.length_drop, closesS, List.length_cons, List.length_nil]
        omega
theorem nextM_fit {s : List UInt8} {a : Nat} {hid hid2 : Option Nat} {l : List Tok} (ha : a < s.length) (hs : spec s a hid.isSome = true) (h : nextM s a hid = .ok (l, hid2)) : ∀ t ∈ l, fits t := by
  unfold nextM at h
  split at h
  · rename_i ho
    have h5 := has_le ho (by simp [opensS])
    have e5 : opensS.length = 5 := rfl
    split at h
    · cases h
    · rename_i t ht
      split at h
      · cases h
      · rename_i l2 hl2
        simp only [Except.ok.injEq, Prod.mk.injEq] at h
        obtain ⟨rfl, rfl⟩ := h
        have hf := openM_fit (by omega) ht
        rcases rawM_ok hl2 with ⟨_, rfl⟩ | ⟨_, _, n, _, rfl⟩
        · intro x hx
          rw [List.mem_singleton] at hx
          subst hx; exact hf
        · intro x hx
          simp only [List.mem_cons, List.not_mem_nil, or_false] at hx
          rcases hx with rfl | rfl
          · exact hf
          · refine ⟨?_, .inl rfl⟩
            unfold written
            rw [if_neg (by simp), if_neg (by simp), if_neg (by simp), if_neg (by simp)]
            simp only [List.length_take]
            omega
  · rename_i ho
    split at h
    · rename_i hc
      have h6 := has_le hc (by simp [closesS])
      have e6 : closesS.length = 6 := rfl
      split at h
      · cases h
      · rename_i t ht
        simp only [Except.ok.injEq, Prod.mk.injEq] at h
        obtain ⟨rfl, rfl⟩ := h
        intro x hx
        rw [List.mem_singleton] at hx
        subst hx
        exact closeM_fit (by omega) ht
    · split at h
      · split at h
        · cases h
        · simp only [Except.ok.injEq, Prod.mk.injEq] at h
          obtain ⟨rfl, rfl⟩ := h
          intro x hx
          rw [List.mem_singleton] at hx
          subst hx
          refine ⟨?_, .inl rfl⟩
          unfold written
          rw [if_neg (by simp), if_pos rfl]
          simp only [hidesS, List.length_append, List.length_cons, List.length_nil]
          omega
      · simp only [Except.ok.injEq, Prod.mk.injEq] at h
        obtain ⟨rfl, rfl⟩ := h
        intro x hx
        rw [List.mem_singleton] at hx
        subst hx
        refine ⟨?_, .inl rfl⟩
        unfold written
        rw [if_neg (by simp), if_neg (by simp), if_neg (by simp), if_neg (by simp)]
        simp only [showsS, List.length_cons, List.length_nil]
        omega
theorem lexG_fit {s : List UInt8} : ∀ (f a : Nat) (hid : Option Nat) (l : List Tok), a ≤ s.length → lexG s f a hid = .ok l → ∀ t ∈ l, fits t
  | 0, a, hid, l, _, h => by
    simp only [lexG, Except.ok.injEq] at h
    subst h
    simp
  | f + 1, a, hid, l, ha, h => by
    unfold lexG at h
    split at h
    · split at h
      · cases h
      · simp only [Except.ok.injEq] at h
        subst h
        simp
    · rename_i hlt
      split at h
      · rename_i hs
        split at h
        · cases h
        · rename_i l1 hid2 hn
          split at h
          · cases h
          · rename_i r hr
            simp only [Except.ok.injEq] at h
            subst h
            have h1 := nextM_fit (by omega) hs hn
            intro t ht
            rcases List.mem_append.1 ht with ht | ht
            · exact h1 t ht
            · by_cases hle : lastTo l1 (a + 1) ≤ s.length
              · exact lexG_fit f _ _ r hle hr t ht
              · cases f with
                | zero =>
                  simp only [lexG, Except.ok.injEq] at hr
                  subst hr; cases ht
                | succ g =>
                  unfold lexG at hr
                  rw [if_pos (by omega)] at hr
                  split at hr
                  · cases hr
                  · simp only [Except.ok.injEq] at hr
                    subst hr; cases ht
      · simp only at h
        split at h
        · cases h
        · rename_i r hr
          simp only [Except.ok.injEq] at h
          subst h
          obtain ⟨t1, t2, _⟩ := textTo_ok (s := s) (hid := hid.isSome) (s.length - a) a (by omega) ha
          intro t ht
          rcases List.mem_cons.1 ht with rfl | ht
          · refine ⟨?_, .inl rfl⟩
            unfold written
            rw [if_neg (by simp), if_neg (by simp), if_neg (by simp), if_neg (by simp)]
            simp only [cut, List.length_take]
            omega
          · exact lexG_fit f _ _ r t2 hr t ht
theorem lexM_fit {s : List UInt8} {l : List Tok} (h : lexM s = .ok l) : ∀ t ∈ l, fits t := lexG_fit _ _ _ l (by omega) h
theorem WG_out {s : List UInt8} : ∀ (r : List Tok) (a : Nat) (prev : Option Tok) (hid : Bool), WG s a prev hid r → (∀ t ∈ r, fits t) → a ≤ s.length → (outS r).length + a ≤ s.length
  | [], a, prev, hid, _, _, ha => by simpa [outS] using ha
  | t :: r, a, prev, hid, h, hf, ha => by
    obtain ⟨h1, h2, h3, h4, h5, h6, h7, h8, h9, h10, h11⟩ := h
    have ih := WG_out r t.to (some t) _ h11 (fun x hx => hf x (by simp [hx])) h3
    have := (hf t (by simp)).1
    rw [outS, List.length_append]
    omega
theorem outS_mem {l : List Tok} {t : Tok} (h : t ∈ l) : (written t).length ≤ (outS l).length := by
  induction l with
  | nil => cases h
  | cons a l ih =>
    rw [outS, List.length_append]
    rcases List.mem_cons.1 h with rfl | h
    · omega
    · have := ih h; omega
theorem outS_app (l r : List Tok) : outS (l ++ r) = outS l ++ outS r := by
  induction l with
  | nil => rfl
  | cons a l ih => simp [outS, ih]
theorem sameL_len : ∀ {l m : List Tok}, sameL l m → m.length = l.length
  | [], [], _ => rfl
  | a :: r, b :: q, h => by rw [List.length_cons, List.length_cons, sameL_len h.2]
  | [], _ :: _, h => h.elim
  | _ :: _, [], h => h.elim
theorem attrsS_count (l : List Att) : l.length ≤ (attrsS l).length := by
  induction l with
  | nil => simp
  | cons a l ih => simp only [attrsS, List.length_cons, List.length_append]; omega
theorem fits_count {t : Tok} (h : fits t) : t.attrs.length ≤ (written t).length := by
  have := attrsS_count t.attrs
  rcases h.2 with h | h | h
  · rw [h]; simp
  · unfold written
    rw [if_neg (by omega), if_neg (by omega), if_pos h]
    simp only [List.length_append]
    omega
  · unfold written
    rw [if_neg (by omega), if_neg (by omega), if_neg (by omega), if_pos h]
    simp only [List.length_append]
    omega
end Go.Ai.Ex
end

section
namespace Go.Proofs.YtolmmodgneodbaaDoor
open Go.Ai Go Go.Ai.Ex
set_option maxRecDepth 100000
set_option linter.unusedVariables false
theorem t13 {v : AV} {k : Int} {nm : List UInt8} {es : List (List AV)} {tx : List UInt8} {fr to : Int}  (hT : TabOk cfg2 (ctab [(20, hasC)])) (H :
    ifP (k == 4) (gAnd (decide (6 + List.length nm ≤ 9223372036854775807)) (gAnd (decide (List.length (60 :: 47 :: 101 :: 115 :: 105 :: 58 :: List.append [] nm) + 1 ≤ 9223372036854775807)) (AV.str (60 :: 47 :: 101 :: 115 :: 105 :: 58 :: List.append (List.append [] nm) [62]) = v))) (ifP (k == 5) (AV.str [60, 33, 45, 45, 101, 115, 105, 32] = v) (ifP (k == 2) (gAnd (decide (5 + List.length nm ≤ 9223372036854775807)) (ToEnd cfg2 13 (bodyOf Tryd.f13) (RetIs Tryd.prog Tryd.f13 v) [Fm.code [0, 1, 0, 1, 0, 1, 1, 1, 1, 1, 0, 1, 0, 1], Fm.block 1, Fm.code [1, 1, 0, 1, 1, 1, 1, 1, 0, 1, 0, 1], Fm.block 0, Fm.code [1, 1]] XT.normal [(1, true, AV.ptr 0 0), (3, true, AV.str (60 :: 101 :: 115 :: 105 :: 58 :: List.append [] nm)), (4, true, AV.int IntKind.i64 0)] [Blk.mem 32 [AV.int IntKind.i64 k, AV.str nm, AV.sl 3 es none, AV.str tx, AV.int IntKind.i64 fr, AV.int IntKind.i64 to]])) (ifP (k == 3) (gAnd (decide (5 + List.length nm ≤ 9223372036854775807)) (ToEnd cfg2 13 (bodyOf Tryd.f13) (RetIs Tryd.prog Tryd.f13 v) [Fm.code [0, 1, 0, 1, 0, 1, 1, 1, 1, 1, 0, 1, 0, 1], Fm.block 1, Fm.code [1, 1, 0, 1, 1, 1, 1, 1, 0, 1, 0, 1], Fm.block 0, Fm.code [1, 1]] XT.normal [(1, true, AV.ptr 0 0), (3, true, AV.str (60 :: 101 :: 115 :: 105 :: 58 :: List.append [] nm)), (4, true, AV.int IntKind.i64 0)] [Blk.mem 32 [AV.int IntKind.i64 k, AV.str nm, AV.sl 3 es none, AV.str tx, AV.int IntKind.i64 fr, AV.int IntKind.i64 to]])) (AV.str tx = v))))) :
    ToEnd cfg2 13 (bodyOf Tryd.f13) (RetIs Tryd.prog Tryd.f13 v) ([.code []]) .normal ([(0, true, .agg [.int .i64 k, .str nm, .sl 3 es none, .str tx, .int .i64 fr, .int .i64 to])]) ([]) := by
  exact unr_ok hT 100000 _ _ _ _ (show unr cfg2 13 (bodyOf Tryd.f13) (ctab [(20, hasC)]) ⟨[[0, 1, 0, 1, 0, 1, 1, 1, 1, 1, 0, 1, 0, 1]], [([0, 0, 1, 0, 0, 1, 0, 0, 1, 0, 1, 0, 1, 1, 1, 1, 1, 0, 1, 0, 1], 3, [.str, .str, .int .i64]), ([1, 1, 0, 0, 1, 0, 0, 1, 0, 1, 0, 1, 1, 1, 1, 1, 0, 1, 0, 1], 5, [.str, .str, .int .i64]), ([1, 1, 0, 0, 1, 0, 0, 1, 0, 1, 0, 1, 1, 1, 1, 1, 0, 1, 0, 1], 15, [.str, .str, .int .i64])]⟩ (RetIs Tryd.prog Tryd.f13 v) 100000 ([.code []]) .normal ([(0, true, .agg [.int .i64 k, .str nm, .sl 3 es none, .str tx, .int .i64 fr, .int .i64 to])]) ([]) from unr_use H (by kernel_rfl))

theorem t6 {v : AV} {s : List UInt8} (hT : TabOk cfg2 (ctab [(8, tokC), (7, yesC), (13, wrC)])) (H :
    ifP (decide ((↑(List.length s) : Int) > 6000)) (true = true ∧ AV.bool true = v) (∃ (s1 : List UInt8), List.length s1 ≤ 1000000 ∧ [AV.str s] = [AV.str s1] ∧ (∀ (p2 : Nat) (e3 : Int), lexM s1 = Except.error (p2, e3) → ifP (e3 != 0) (true = true ∧ AV.bool true = v) (ToEnd cfg2 6 (bodyOf Tryd.f6) (RetIs Tryd.prog Tryd.f6 v) [Fm.code [0, 1, 0, 1, 1, 1, 1, 1], Fm.block 0, Fm.code [1, 1, 1, 1, 1, 1]] XT.normal [(3, true, AV.sl 0 [] none), (6, true, AV.str []), (7, true, AV.int IntKind.i64 0)] [])) ∧ ∀ (l5 : List Tok), lexM s1 = Except.ok l5 → ToEnd cfg2 6 (bodyOf Tryd.f6) (RetIs Tryd.prog Tryd.f6 v) [Fm.code [0, 1, 0, 1, 1, 1, 1, 1], Fm.block 0, Fm.code [1, 1, 1, 1, 1, 1]] XT.normal [(3, true, AV.sl 6 (encTs l5) none), (6, true, AV.str []), (7, true, AV.int IntKind.i64 0)] [])) :
    ToEnd cfg2 6 (bodyOf Tryd.f6) (RetIs Tryd.prog Tryd.f6 v) ([.code []]) .normal ([(0, true, .str s)]) ([]) := by
  exact unr_ok hT 100000 _ _ _ _ (show unr cfg2 6 (bodyOf Tryd.f6) (ctab [(8, tokC), (7, yesC), (13, wrC)]) ⟨[[0, 1, 0, 1, 1, 1, 1, 1], [0, 1, 0, 1, 1, 1, 1, 1, 1, 1, 1], [0, 1, 1, 1, 0, 0, 1, 0, 0, 1, 0, 1, 1, 1, 1, 1, 1, 1, 1]], [([0, 0, 1, 0, 0, 1, 0, 1, 1, 1, 1, 1], 3, [.int .i64, .str, .sl 3, .str, .int .i64, .int .i64]), ([0, 0, 0, 1, 0, 0, 1, 0, 1, 1, 1, 1, 1, 1, 1, 1], 2, [.int .i64, .str, .sl 3, .str, .int .i64, .int .i64]), ([0, 0, 0, 1, 0, 0, 1, 0, 1, 1, 1, 1, 1, 1, 1, 1], 6, [.int .i64, .str, .sl 3, .str, .int .i64, .int .i64]), ([0, 0, 0, 1, 0, 0, 1, 1, 1, 0, 0, 1, 0, 0, 1, 0, 1, 1, 1, 1, 1, 1, 1, 1], 3, [.str, .str, .int .i64]), ([0, 0, 0, 1, 0, 0, 1, 1, 1, 0, 0, 1, 0, 0, 1, 0, 1, 1, 1, 1, 1, 1, 1, 1], 9, [.str, .str, .int .i64]), ([0, 0, 0, 1, 0, 0, 1, 1, 1, 0, 0, 1, 0, 0, 1, 0, 1, 1, 1, 1, 1, 1, 1, 1], 17, [.str, .str, .int .i64]), ([0, 0, 0, 1, 0, 0, 1, 1, 1, 0, 0, 1, 0, 0, 1, 0, 1, 1, 1, 1, 1, 1, 1, 1], 23, [.str, .str, .int .i64])]⟩ (RetIs Tryd.prog Tryd.f6 v) 100000 ([.code []]) .normal ([(0, true, .str s)]) ([]) from unr_use H (by kernel_rfl))

theorem t13a {v : AV} {k : Int} {nm : List UInt8} {es : List (List AV)} {tx : List UInt8} {fr to : Int} {acc : List UInt8} {i : Int} (hT : TabOk cfg2 (ctab [(20, hasC)])) (H :
    ifP (decide (i < (↑(List.length es) : Int))) (gAnd (inR i (List.length es) && true && true) (∃ (s1 : List UInt8), ∃ (s2 : List UInt8), ∃ (z3 : Int), getE es i = [AV.str s1, AV.str s2, AV.int IntKind.i64 z3] ∧ ∃ (s4 : List UInt8), ∃ (c5 : UInt8), List.length s4 ≤ 1000000 ∧ [AV.str s2, AV.str [34]] = [AV.str s4, AV.str [c5]] ∧ ifP (List.contains s4 c5) (gAnd (decide (List.length acc + 1 ≤ 9223372036854775807)) (gAnd (inR i (List.length es) && true && true) (∃ (s6 : List UInt8), ∃ (s7 : List UInt8), ∃ (z8 : Int), getE es i = [AV.str s6, AV.str s7, AV.int IntKind.i64 z8] ∧ gAnd (decide (List.length (acc ++ [32]) + List.length s6 ≤ 9223372036854775807)) (gAnd (decide (List.length (acc ++ [32] ++ s6) + 1 ≤ 9223372036854775807)) (gAnd (decide (List.length (acc ++ [32] ++ s6 ++ [61]) + 1 ≤ 9223372036854775807)) (gAnd (inR i (List.length es) && true && true) (∃ (s9 : List UInt8), ∃ (s10 : List UInt8), ∃ (z11 : Int), getE es i = [AV.str s9, AV.str s10, AV.int IntKind.i64 z11] ∧ gAnd (decide (List.length (acc ++ [32] ++ s6 ++ [61] ++ [39]) + List.length s10 ≤ 9223372036854775807)) (gAnd (decide (List.length (acc ++ [32] ++ s6 ++ [61] ++ [39] ++ s10) + 1 ≤ 9223372036854775807)) (ToEnd cfg2 13 (bodyOf Tryd.f13) (RetIs Tryd.prog Tryd.f13 v) [Fm.code [0, 1, 0, 1, 0, 1, 1, 1, 1, 1, 0, 1, 0, 1], Fm.block 1, Fm.code [1, 1, 0, 1, 1, 1, 1, 1, 0, 1, 0, 1], Fm.block 0, Fm.code [1, 1]] XT.normal [(1, true, AV.ptr 0 0), (3, true, AV.str (acc ++ [32] ++ s6 ++ [61] ++ [39] ++ s10 ++ [39])), (4, true, AV.int IntKind.i64 (IntKind.wrap IntKind.i64 (i + 1)))] [Blk.mem 32 [AV.int IntKind.i64 k, AV.str nm, AV.sl 3 es none, AV.str tx, AV.int IntKind.i64 fr, AV.int IntKind.i64 to]]))))))))) (gAnd (decide (List.length acc + 1 ≤ 9223372036854775807)) (gAnd (inR i (List.length es) && true && true) (∃ (s12 : List UInt8), ∃ (s13 : List UInt8), ∃ (z14 : Int), getE es i = [AV.str s12, AV.str s13, AV.int IntKind.i64 z14] ∧ gAnd (decide (List.length (acc ++ [32]) + List.length s12 ≤ 9223372036854775807)) (gAnd (decide (List.length (acc ++ [32] ++ s12) + 1 ≤ 9223372036854775807)) (gAnd (decide (List.length (acc ++ [32] ++ s12 ++ [61]) + 1 ≤ 9223372036854775807)) (gAnd (inR i (List.length es) && true && true) (∃ (s15 : List UInt8), ∃ (s16 : List UInt8), ∃ (z17 : Int), getE es i = [AV.str s15, AV.str s16, AV.int IntKind.i64 z17] ∧ gAnd (decide (List.length (acc ++ [32] ++ s12 ++ [61] ++ [34]) + List.length s16 ≤ 9223372036854775807)) (gAnd (decide (List.length (acc ++ [32] ++ s12 ++ [61] ++ [34] ++ s16) + 1 ≤ 9223372036854775807)) (ToEnd cfg2 13 (bodyOf Tryd.f13) (RetIs Tryd.prog Tryd.f13 v) [Fm.code [0, 1, 0, 1, 0, 1, 1, 1, 1, 1, 0, 1, 0, 1], Fm.block 1, Fm.code [1, 1, 0, 1, 1, 1, 1, 1, 0, 1, 0, 1], Fm.block 0, Fm.code [1, 1]] XT.normal [(1, true, AV.ptr 0 0), (3, true, AV.str (acc ++ [32] ++ s12 ++ [61] ++ [34] ++ s16 ++ [34])), (4, true, AV.int IntKind.i64 (IntKind.wrap IntKind.i64 (i + 1)))] [Blk.mem 32 [AV.int IntKind.i64 k, AV.str nm, AV.sl 3 es none, AV.str tx, AV.int IntKind.i64 fr, AV.int IntKind.i64 to]]))))))))))) (ifP (k == 3) (gAnd (decide (List.length acc + 1 ≤ 9223372036854775807)) (gAnd (decide (List.length (acc ++ [47]) + 1 ≤ 9223372036854775807)) (AV.str (acc ++ [47] ++ [62]) = v))) (gAnd (decide (List.length acc + 1 ≤ 9223372036854775807)) (AV.str (acc ++ [62]) = v)))) :
    ToEnd cfg2 13 (bodyOf Tryd.f13) (RetIs Tryd.prog Tryd.f13 v) ([.code [0, 1, 0, 1, 0, 1, 1, 1, 1, 1, 0, 1, 0, 1], .block 1, .code [1, 1, 0, 1, 1, 1, 1, 1, 0, 1, 0, 1], .block 0, .code [1, 1]]) .normal ([(1, true, .ptr 0 0), (3, true, .str acc), (4, true, .int .i64 i)]) ([.mem 32 [.int .i64 k, .str nm, .sl 3 es none, .str tx, .int .i64 fr, .int .i64 to]]) := by
  exact ends_round hT 100000 (by kernel_rfl) (show unr cfg2 13 (bodyOf Tryd.f13) (ctab [(20, hasC)]) ⟨[[0, 1, 0, 1, 0, 1, 1, 1, 1, 1, 0, 1, 0, 1]], [([0, 0, 1, 0, 0, 1, 0, 0, 1, 0, 1, 0, 1, 1, 1, 1, 1, 0, 1, 0, 1], 3, [.str, .str, .int .i64]), ([1, 1, 0, 0, 1, 0, 0, 1, 0, 1, 0, 1, 1, 1, 1, 1, 0, 1, 0, 1], 5, [.str, .str, .int .i64]), ([1, 1, 0, 0, 1, 0, 0, 1, 0, 1, 0, 1, 1, 1, 1, 1, 0, 1, 0, 1], 15, [.str, .str, .int .i64])]⟩ (RetIs Tryd.prog Tryd.f13 v) 100000 ([.code [0, 0, 1, 0, 1, 0, 1, 1, 1, 1, 1, 0, 1, 0, 1], .loop [0, 1, 0, 1, 0, 1, 1, 1, 1, 1, 0, 1, 0, 1] 1, .block 1, .code [1, 1, 0, 1, 1, 1, 1, 1, 0, 1, 0, 1], .block 0, .code [1, 1]]) .normal ([(1, true, .ptr 0 0), (3, true, .str acc), (4, true, .int .i64 i)]) ([.mem 32 [.int .i64 k, .str nm, .sl 3 es none, .str tx, .int .i64 fr, .int .i64 to]]) from unr_use H (by kernel_rfl))

theorem t6a {v : AV} {es : List (List AV)} {out : List UInt8} {i : Int} (hT : TabOk cfg2 (ctab [(8, tokC), (7, yesC), (13, wrC)])) (H :
    ifP (decide (i < (↑(List.length es) : Int))) (gAnd (inR i (List.length es) && true && true) (∃ (z1 : Int), ∃ (s2 : List UInt8), ∃ (es3 : List (List AV)), ∃ (s4 : List UInt8), ∃ (z5 : Int), ∃ (z6 : Int), getE es i = [AV.int IntKind.i64 z1, AV.str s2, AV.sl 3 es3 none, AV.str s4, AV.int IntKind.i64 z5, AV.int IntKind.i64 z6] ∧ ∃ (t7 : Tok), List.length (Ex.written t7) ≤ 1000000 ∧ [AV.agg [AV.int IntKind.i64 z1, AV.str s2, AV.sl 3 (stripss 0 [] es3) none, AV.str s4, AV.int IntKind.i64 z5, AV.int IntKind.i64 z6]] = [AV.agg [AV.int IntKind.i64 (Tok.kind t7), AV.str (Tok.name t7), AV.sl 3 (encAs (Tok.attrs t7)) none, AV.str (Tok.text t7), AV.int IntKind.i64 (↑(Tok.fr t7) : Int), AV.int IntKind.i64 (↑(Tok.to t7) : Int)]] ∧ gAnd (decide (List.length out + List.length (Ex.written t7) ≤ 9223372036854775807)) (gAnd (lowVss 0 es && true && true && true) (ToEnd cfg2 6 (bodyOf Tryd.f6) (RetIs Tryd.prog Tryd.f6 v) [Fm.code [0, 1, 0, 1, 1, 1, 1, 1], Fm.block 0, Fm.code [1, 1, 1, 1, 1, 1]] XT.normal [(3, true, AV.sl 6 es none), (6, true, AV.str (out ++ Ex.written t7)), (7, true, AV.int IntKind.i64 (IntKind.wrap IntKind.i64 (i + 1)))] [])))) (∃ (s8 : List UInt8), List.length s8 ≤ 1000000 ∧ [AV.str out] = [AV.str s8] ∧ (∀ (p9 : Nat) (e10 : Int), lexM s8 = Except.error (p9, e10) → ifP (e10 != 0) (AV.bool false = v) (ifP (0 != (↑(List.length es) : Int)) (AV.bool false = v) (ToEnd cfg2 6 (bodyOf Tryd.f6) (RetIs Tryd.prog Tryd.f6 v) [Fm.code [0, 1, 0, 1, 1, 1, 1, 1, 1, 1, 1], Fm.block 2, Fm.code [1, 1, 1, 1, 1, 1, 1, 1, 1]] XT.normal [(3, true, AV.sl 6 es none), (8, true, AV.sl 0 [] none), (11, true, AV.int IntKind.i64 0)] []))) ∧ ∀ (l12 : List Tok), lexM s8 = Except.ok l12 → ifP ((↑(List.length (encTs l12)) : Int) != (↑(List.length es) : Int)) (AV.bool false = v) (ToEnd cfg2 6 (bodyOf Tryd.f6) (RetIs Tryd.prog Tryd.f6 v) [Fm.code [0, 1, 0, 1, 1, 1, 1, 1, 1, 1, 1], Fm.block 2, Fm.code [1, 1, 1, 1, 1, 1, 1, 1, 1]] XT.normal [(3, true, AV.sl 6 es none), (8, true, AV.sl 6 (encTs l12) none), (11, true, AV.int IntKind.i64 0)] []))) :
    ToEnd cfg2 6 (bodyOf Tryd.f6) (RetIs Tryd.prog Tryd.f6 v) ([.code [0, 1, 0, 1, 1, 1, 1, 1], .block 0, .code [1, 1, 1, 1, 1, 1]]) .normal ([(3, true, .sl 6 es none), (6, true, .str out), (7, true, .int .i64 i)]) ([]) := by
  exact ends_round hT 100000 (by kernel_rfl) (show unr cfg2 6 (bodyOf Tryd.f6) (ctab [(8, tokC), (7, yesC), (13, wrC)]) ⟨[[0, 1, 0, 1, 1, 1, 1, 1], [0, 1, 0, 1, 1, 1, 1, 1, 1, 1, 1], [0, 1, 1, 1, 0, 0, 1, 0, 0, 1, 0, 1, 1, 1, 1, 1, 1, 1, 1]], [([0, 0, 1, 0, 0, 1, 0, 1, 1, 1, 1, 1], 3, [.int .i64, .str, .sl 3, .str, .int .i64, .int .i64]), ([0, 0, 0, 1, 0, 0, 1, 0, 1, 1, 1, 1, 1, 1, 1, 1], 2, [.int .i64, .str, .sl 3, .str, .int .i64, .int .i64]), ([0, 0, 0, 1, 0, 0, 1, 0, 1, 1, 1, 1, 1, 1, 1, 1], 6, [.int .i64, .str, .sl 3, .str, .int .i64, .int .i64]), ([0, 0, 0, 1, 0, 0, 1, 1, 1, 0, 0, 1, 0, 0, 1, 0, 1, 1, 1, 1, 1, 1, 1, 1], 3, [.str, .str, .int .i64]), ([0, 0, 0, 1, 0, 0, 1, 1, 1, 0, 0, 1, 0, 0, 1, 0, 1, 1, 1, 1, 1, 1, 1, 1], 9, [.str, .str, .int .i64]), ([0, 0, 0, 1, 0, 0, 1, 1, 1, 0, 0, 1, 0, 0, 1, 0, 1, 1, 1, 1, 1, 1, 1, 1], 17, [.str, .str, .int .i64]), ([0, 0, 0, 1, 0, 0, 1, 1, 1, 0, 0, 1, 0, 0, 1, 0, 1, 1, 1, 1, 1, 1, 1, 1], 23, [.str, .str, .int .i64])]⟩ (RetIs Tryd.prog Tryd.f6 v) 100000 ([.code [0, 0, 1, 0, 1, 1, 1, 1, 1], .loop [0, 1, 0, 1, 1, 1, 1, 1] 0, .block 0, .code [1, 1, 1, 1, 1, 1]]) .normal ([(3, true, .sl 6 es none), (6, true, .str out), (7, true, .int .i64 i)]) ([]) from unr_use H (by kernel_rfl))

theorem t6b {v : AV} {es ms : List (List AV)} {i : Int} (hT : TabOk cfg2 (ctab [(8, tokC), (7, yesC), (13, wrC)])) (H :
    ifP (decide (i < (↑(List.length es) : Int))) (gAnd (inR i (List.length es) && true && true) (∃ (z1 : Int), ∃ (s2 : List UInt8), ∃ (es3 : List (List AV)), ∃ (s4 : List UInt8), ∃ (z5 : Int), ∃ (z6 : Int), getE es i = [AV.int IntKind.i64 z1, AV.str s2, AV.sl 3 es3 none, AV.str s4, AV.int IntKind.i64 z5, AV.int IntKind.i64 z6] ∧ gAnd (inR i (List.length ms) && true && true) (∃ (z7 : Int), ∃ (s8 : List UInt8), ∃ (es9 : List (List AV)), ∃ (s10 : List UInt8), ∃ (z11 : Int), ∃ (z12 : Int), getE ms i = [AV.int IntKind.i64 z7, AV.str s8, AV.sl 3 es9 none, AV.str s10, AV.int IntKind.i64 z11, AV.int IntKind.i64 z12] ∧ ifP (z1 != z7) (AV.bool false = v) (ifP (!s2 == s8) (AV.bool false = v) (∃ (t13 : Tok), List.length (Ex.written t13) ≤ 1000000 ∧ [AV.agg [AV.int IntKind.i64 z1, AV.str s2, AV.sl 3 (stripss 0 [] es3) none, AV.str s4, AV.int IntKind.i64 z5, AV.int IntKind.i64 z6]] = [AV.agg [AV.int IntKind.i64 (Tok.kind t13), AV.str (Tok.name t13), AV.sl 3 (encAs (Tok.attrs t13)) none, AV.str (Tok.text t13), AV.int IntKind.i64 (↑(Tok.fr t13) : Int), AV.int IntKind.i64 (↑(Tok.to t13) : Int)]] ∧ ifP (!s10 == Ex.written t13) (AV.bool false = v) (ifP ((↑(List.length es3) : Int) != (↑(List.length es9) : Int)) (AV.bool false = v) (ToEnd cfg2 6 (bodyOf Tryd.f6) (RetIs Tryd.prog Tryd.f6 v) [Fm.code [0, 1, 1, 1, 0, 0, 1, 0, 0, 1, 0, 1, 1, 1, 1, 1, 1, 1, 1], Fm.block 4, Fm.block 3, Fm.code [1, 1, 0, 0, 1, 0, 1, 1, 1, 1, 1, 1, 1, 1], Fm.loop [0, 1, 0, 1, 1, 1, 1, 1, 1, 1, 1] 0, Fm.block 2, Fm.code [1, 1, 1, 1, 1, 1, 1, 1, 1]] XT.normal [(3, true, AV.sl 6 es none), (8, true, AV.sl 6 ms none), (11, true, AV.int IntKind.i64 i), (12, true, AV.ptr 0 0), (13, true, AV.ptr 1 0), (14, true, AV.int IntKind.i64 0)] [Blk.mem 32 [AV.int IntKind.i64 z1, AV.str s2, AV.sl 3 es3 none, AV.str s4, AV.int IntKind.i64 z5, AV.int IntKind.i64 z6], Blk.mem 32 [AV.int IntKind.i64 z7, AV.str s8, AV.sl 3 es9 none, AV.str s10, AV.int IntKind.i64 z11, AV.int IntKind.i64 z12]]))))))) (true = true ∧ AV.bool true = v)) :
    ToEnd cfg2 6 (bodyOf Tryd.f6) (RetIs Tryd.prog Tryd.f6 v) ([.code [0, 1, 0, 1, 1, 1, 1, 1, 1, 1, 1], .block 2, .code [1, 1, 1, 1, 1, 1, 1, 1, 1]]) .normal ([(3, true, .sl 6 es none), (8, true, .sl 6 ms none), (11, true, .int .i64 i)]) ([]) := by
  exact ends_round hT 100000 (by kernel_rfl) (show unr cfg2 6 (bodyOf Tryd.f6) (ctab [(8, tokC), (7, yesC), (13, wrC)]) ⟨[[0, 1, 0, 1, 1, 1, 1, 1], [0, 1, 0, 1, 1, 1, 1, 1, 1, 1, 1], [0, 1, 1, 1, 0, 0, 1, 0, 0, 1, 0, 1, 1, 1, 1, 1, 1, 1, 1]], [([0, 0, 1, 0, 0, 1, 0, 1, 1, 1, 1, 1], 3, [.int .i64, .str, .sl 3, .str, .int .i64, .int .i64]), ([0, 0, 0, 1, 0, 0, 1, 0, 1, 1, 1, 1, 1, 1, 1, 1], 2, [.int .i64, .str, .sl 3, .str, .int .i64, .int .i64]), ([0, 0, 0, 1, 0, 0, 1, 0, 1, 1, 1, 1, 1, 1, 1, 1], 6, [.int .i64, .str, .sl 3, .str, .int .i64, .int .i64]), ([0, 0, 0, 1, 0, 0, 1, 1, 1, 0, 0, 1, 0, 0, 1, 0, 1, 1, 1, 1, 1, 1, 1, 1], 3, [.str, .str, .int .i64]), ([0, 0, 0, 1, 0, 0, 1, 1, 1, 0, 0, 1, 0, 0, 1, 0, 1, 1, 1, 1, 1, 1, 1, 1], 9, [.str, .str, .int .i64]), ([0, 0, 0, 1, 0, 0, 1, 1, 1, 0, 0, 1, 0, 0, 1, 0, 1, 1, 1, 1, 1, 1, 1, 1], 17, [.str, .str, .int .i64]), ([0, 0, 0, 1, 0, 0, 1, 1, 1, 0, 0, 1, 0, 0, 1, 0, 1, 1, 1, 1, 1, 1, 1, 1], 23, [.str, .str, .int .i64])]⟩ (RetIs Tryd.prog Tryd.f6 v) 100000 ([.code [0, 0, 1, 0, 1, 1, 1, 1, 1, 1, 1, 1], .loop [0, 1, 0, 1, 1, 1, 1, 1, 1, 1, 1] 0, .block 2, .code [1, 1, 1, 1, 1, 1, 1, 1, 1]]) .normal ([(3, true, .sl 6 es none), (8, true, .sl 6 ms none), (11, true, .int .i64 i)]) ([]) from unr_use H (by kernel_rfl))

theorem t6c {v : AV} {es ms : List (List AV)} {i : Int} {k : Int} {nm : List UInt8} {ea : List (List AV)} {tx : List UInt8} {fr to : Int} {k2 : Int} {nm2 : List UInt8} {eb : List (List AV)} {tx2 : List UInt8} {fr2 to2 j : Int} (hT : TabOk cfg2 (ctab [(8, tokC), (7, yesC), (13, wrC)])) (H :
    ifP (decide (j < (↑(List.length ea) : Int))) (gAnd (inR j (List.length ea) && true && true) (∃ (s1 : List UInt8), ∃ (s2 : List UInt8), ∃ (z3 : Int), getE ea j = [AV.str s1, AV.str s2, AV.int IntKind.i64 z3] ∧ gAnd (inR j (List.length eb) && true && true) (∃ (s4 : List UInt8), ∃ (s5 : List UInt8), ∃ (z6 : Int), getE eb j = [AV.str s4, AV.str s5, AV.int IntKind.i64 z6] ∧ ifP (!s1 == s4) (AV.bool false = v) (gAnd (inR j (List.length ea) && true && true) (∃ (s7 : List UInt8), ∃ (s8 : List UInt8), ∃ (z9 : Int), getE ea j = [AV.str s7, AV.str s8, AV.int IntKind.i64 z9] ∧ gAnd (inR j (List.length eb) && true && true) (∃ (s10 : List UInt8), ∃ (s11 : List UInt8), ∃ (z12 : Int), getE eb j = [AV.str s10, AV.str s11, AV.int IntKind.i64 z12] ∧ ifP (!s8 == s11) (AV.bool false = v) (gAnd (lowVss 2 es && true && (lowVss 2 ms && true && true) && (lowVss 2 ea && true && true && (lowVss 2 eb && true && true && true))) (ToEnd cfg2 6 (bodyOf Tryd.f6) (RetIs Tryd.prog Tryd.f6 v) [Fm.code [0, 1, 1, 1, 0, 0, 1, 0, 0, 1, 0, 1, 1, 1, 1, 1, 1, 1, 1], Fm.block 4, Fm.block 3, Fm.code [1, 1, 0, 0, 1, 0, 1, 1, 1, 1, 1, 1, 1, 1], Fm.loop [0, 1, 0, 1, 1, 1, 1, 1, 1, 1, 1] 0, Fm.block 2, Fm.code [1, 1, 1, 1, 1, 1, 1, 1, 1]] XT.normal [(3, true, AV.sl 6 es none), (8, true, AV.sl 6 ms none), (11, true, AV.int IntKind.i64 i), (12, true, AV.ptr 0 0), (13, true, AV.ptr 1 0), (14, true, AV.int IntKind.i64 (IntKind.wrap IntKind.i64 (j + 1)))] [Blk.mem 32 [AV.int IntKind.i64 k, AV.str nm, AV.sl 3 ea none, AV.str tx, AV.int IntKind.i64 fr, AV.int IntKind.i64 to], Blk.mem 32 [AV.int IntKind.i64 k2, AV.str nm2, AV.sl 3 eb none, AV.str tx2, AV.int IntKind.i64 fr2, AV.int IntKind.i64 to2]])))))))) (gAnd (lowVss 0 es && true && (lowVss 0 ms && true && true) && true) (ToEnd cfg2 6 (bodyOf Tryd.f6) (RetIs Tryd.prog Tryd.f6 v) [Fm.code [0, 1, 0, 1, 1, 1, 1, 1, 1, 1, 1], Fm.block 2, Fm.code [1, 1, 1, 1, 1, 1, 1, 1, 1]] XT.normal [(3, true, AV.sl 6 es none), (8, true, AV.sl 6 ms none), (11, true, AV.int IntKind.i64 (IntKind.wrap IntKind.i64 (i + 1)))] []))) :
    ToEnd cfg2 6 (bodyOf Tryd.f6) (RetIs Tryd.prog Tryd.f6 v) ([.code [0, 1, 1, 1, 0, 0, 1, 0, 0, 1, 0, 1, 1, 1, 1, 1, 1, 1, 1], .block 4, .block 3, .code [1, 1, 0, 0, 1, 0, 1, 1, 1, 1, 1, 1, 1, 1], .loop [0, 1, 0, 1, 1, 1, 1, 1, 1, 1, 1] 0, .block 2, .code [1, 1, 1, 1, 1, 1, 1, 1, 1]]) .normal ([(3, true, .sl 6 es none), (8, true, .sl 6 ms none), (11, true, .int .i64 i), (12, true, .ptr 0 0), (13, true, .ptr 1 0), (14, true, .int .i64 j)]) ([.mem 32 [.int .i64 k, .str nm, .sl 3 ea none, .str tx, .int .i64 fr, .int .i64 to], .mem 32 [.int .i64 k2, .str nm2, .sl 3 eb none, .str tx2, .int .i64 fr2, .int .i64 to2]]) := by
  exact ends_round hT 100000 (by kernel_rfl) (show unr cfg2 6 (bodyOf Tryd.f6) (ctab [(8, tokC), (7, yesC), (13, wrC)]) ⟨[[0, 1, 0, 1, 1, 1, 1, 1], [0, 1, 0, 1, 1, 1, 1, 1, 1, 1, 1], [0, 1, 1, 1, 0, 0, 1, 0, 0, 1, 0, 1, 1, 1, 1, 1, 1, 1, 1]], [([0, 0, 1, 0, 0, 1, 0, 1, 1, 1, 1, 1], 3, [.int .i64, .str, .sl 3, .str, .int .i64, .int .i64]), ([0, 0, 0, 1, 0, 0, 1, 0, 1, 1, 1, 1, 1, 1, 1, 1], 2, [.int .i64, .str, .sl 3, .str, .int .i64, .int .i64]), ([0, 0, 0, 1, 0, 0, 1, 0, 1, 1, 1, 1, 1, 1, 1, 1], 6, [.int .i64, .str, .sl 3, .str, .int .i64, .int .i64]), ([0, 0, 0, 1, 0, 0, 1, 1, 1, 0, 0, 1, 0, 0, 1, 0, 1, 1, 1, 1, 1, 1, 1, 1], 3, [.str, .str, .int .i64]), ([0, 0, 0, 1, 0, 0, 1, 1, 1, 0, 0, 1, 0, 0, 1, 0, 1, 1, 1, 1, 1, 1, 1, 1], 9, [.str, .str, .int .i64]), ([0, 0, 0, 1, 0, 0, 1, 1, 1, 0, 0, 1, 0, 0, 1, 0, 1, 1, 1, 1, 1, 1, 1, 1], 17, [.str, .str, .int .i64]), ([0, 0, 0, 1, 0, 0, 1, 1, 1, 0, 0, 1, 0, 0, 1, 0, 1, 1, 1, 1, 1, 1, 1, 1], 23, [.str, .str, .int .i64])]⟩ (RetIs Tryd.prog Tryd.f6 v) 100000 ([.code [0, 0, 1, 1, 1, 0, 0, 1, 0, 0, 1, 0, 1, 1, 1, 1, 1, 1, 1, 1], .loop [0, 1, 1, 1, 0, 0, 1, 0, 0, 1, 0, 1, 1, 1, 1, 1, 1, 1, 1] 2, .block 4, .block 3, .code [1, 1, 0, 0, 1, 0, 1, 1, 1, 1, 1, 1, 1, 1], .loop [0, 1, 0, 1, 1, 1, 1, 1, 1, 1, 1] 0, .block 2, .code [1, 1, 1, 1, 1, 1, 1, 1, 1]]) .normal ([(3, true, .sl 6 es none), (8, true, .sl 6 ms none), (11, true, .int .i64 i), (12, true, .ptr 0 0), (13, true, .ptr 1 0), (14, true, .int .i64 j)]) ([.mem 32 [.int .i64 k, .str nm, .sl 3 ea none, .str tx, .int .i64 fr, .int .i64 to], .mem 32 [.int .i64 k2, .str nm2, .sl 3 eb none, .str tx2, .int .i64 fr2, .int .i64 to2]]) from unr_use H (by kernel_rfl))

end Go.Proofs.YtolmmodgneodbaaDoor
end

section
namespace Go.Proofs.YtolmmodgneodbaaDoor
open Go.Ai Go Go.Ai.Ex
set_option linter.unusedSimpArgs false
set_option linter.unusedVariables false
set_option maxRecDepth 100000
theorem contB_one (c : UInt8) : ∀ s : List UInt8, contB s [c] = s.contains c
  | [] => rfl
  | d :: r => by
    rw [contB, contB_one c r]
    show ((c == d) && true || r.contains c) = List.elem c (d :: r)
    rw [List.elem]
    cases h : (c == d) <;> rfl
theorem c20k : COk cfg2 20 hasC := by
  refine cok_prim (g := pContains) (by kernel_rfl) (by kernel_rfl) (by kernel_rfl) (by kernel_rfl) fun vs h K ht => ?_
  obtain ⟨s, c, hs, rfl, hk⟩ := ht
  refine ⟨.bool (contB s [c]), by rw [contB_one]; exact hk, ?_⟩
  unfold limE at hs
  show some (Nat.blt s.length 4294967281, AV.bool (contB s [c])) = _
  rw [show Nat.blt s.length 4294967281 = true from Nat.ble_eq_true_of_le (by omega)]
theorem pf13k : pureFn cfg2 13 Tryd.f13 := ⟨by kernel_rfl, by kernel_rfl, by kernel_rfl, by kernel_rfl, by kernel_rfl, by kernel_rfl⟩
theorem pf6k : pureFn cfg2 6 Tryd.f6 := ⟨by kernel_rfl, by kernel_rfl, by kernel_rfl, by kernel_rfl, by kernel_rfl, by kernel_rfl⟩
theorem tab13 : TabOk cfg2 (ctab [(20, hasC)]) := ctab_ok (ctab_cons c20k ctab_nil)
theorem get_as (p : List Att) (a : Att) (r : List Att) {i : Int} (hi : i = p.length) : inR i (encAs (p ++ a :: r)).length = true ∧ getE (encAs (p ++ a :: r)) i = encA a := by
  subst hi
  have hl : p.length < (p ++ a :: r).length := by simp
  refine ⟨?_, ?_⟩
  · rw [encAs, List.length_map]; exact inR_nat hl
  · rw [encAs, getE_map encA _ hl]
    simp
theorem loop13 {k : Int} {nm tx : List UInt8} {fr to : Int} {fin : List UInt8} (hfin : fin = if k = 3 then [47, 62] else [62]) : ∀ (r p : List Att) (acc : List UInt8), acc.length + (attrsS r).length ≤ limE → p.length + r.length ≤ limE →
    ToEnd cfg2 13 (bodyOf Tryd.f13) (RetIs Tryd.prog Tryd.f13 (.str (acc ++ (attrsS r ++ fin)))) [.code [0, 1, 0, 1, 0, 1, 1, 1, 1, 1, 0, 1, 0, 1], .block 1, .code [1, 1, 0, 1, 1, 1, 1, 1, 0, 1, 0, 1], .block 0, .code [1, 1]] .normal
      [(1, true, .ptr 0 0), (3, true, .str acc), (4, true, .int .i64 p.length)] [.mem 32 [.int .i64 k, .str nm, .sl 3 (encAs (p ++ r)) none, .str tx, .int .i64 fr, .int .i64 to]]
  | [], p, acc, hl, hn => by
    have hl' : acc.length ≤ 1000000 := by simpa [attrsS, limE] using hl
    refine t13a tab13 (ifP_intro (fun x => ?_) fun _ => ifP_intro (fun x => gAnd_intro (decide_eq_true (by omega)) (gAnd_intro (decide_eq_true (by simp; omega)) ?_)) fun x => gAnd_intro (decide_eq_true (by omega)) ?_)
    · simp [encAs] at x
    · have : k = 3 := by simpa using x
      rw [hfin, if_pos this]
      simp [attrsS]
    · have : ¬ k = 3 := by simpa using x
      rw [hfin, if_neg this]
      simp [attrsS]
  | a :: r, p, acc, hl, hn => by
    have hl' : acc.length + (a.name.length + a.value.length + 4 + (attrsS r).length) ≤ 1000000 := by
      have e : (attrsS (a :: r)).length = a.name.length + a.value.length + 4 + (attrsS r).length := by
        simp only [attrsS, List.length_cons, List.length_append]; omega
      rw [e] at hl
      exact hl
    have hn' : p.length + (r.length + 1) ≤ 1000000 := hn
    obtain ⟨g1, g2⟩ := get_as p a r rfl
    have ih := loop13 (k := k) (nm := nm) (tx := tx) (fr := fr) (to := to) hfin r (p ++ [a]) (acc ++ [32] ++ a.name ++ [61] ++ [markS a.value] ++ a.value ++ [markS a.value]) (by
      simp only [List.length_append, List.length_cons, List.length_nil]
      unfold limE
      omega) (by simp; unfold limE; omega)
    have e1 : acc ++ [32] ++ a.name ++ [61] ++ [markS a.value] ++ a.value ++ [markS a.value] ++ (attrsS r ++ fin) = acc ++ (attrsS (a :: r) ++ fin) := by
      simp [attrsS]
    rw [e1, show ((p ++ [a]).length : Int) = IntKind.wrap .i64 ((p.length : Int) + 1) by rw [wrap_in (by omega) (by omega)]; simp, show p ++ [a] ++ r = p ++ a :: r by simp] at ih
    refine t13a tab13 (ifP_intro (fun _ => gAnd_intro (by rw [g1]; rfl) ⟨_, _, _, g2, _, 34, by omega, rfl, ifP_intro (fun x => ?_) fun x => ?_⟩) fun x => ?_)
    · have hm : markS a.value = 39 := by unfold markS; rw [if_pos x]
      rw [hm] at ih
      refine gAnd_intro (decide_eq_true (by omega)) (gAnd_intro (by rw [g1]; rfl) ⟨_, _, _, g2, gAnd_intro (decide_eq_true ?_) (gAnd_intro (decide_eq_true ?_) (gAnd_intro (decide_eq_true ?_) (gAnd_intro (by rw [g1]; rfl) ⟨_, _, _, g2, gAnd_intro (decide_eq_true ?_) (gAnd_intro (decide_eq_true ?_) ih)⟩)))⟩)
      all_goals (simp only [List.length_append, List.length_cons, List.length_nil]; omega)
    · have hm : markS a.value = 34 := by unfold markS; rw [if_neg (by rw [x]; simp)]
      rw [hm] at ih
      refine gAnd_intro (decide_eq_true (by omega)) (gAnd_intro (by rw [g1]; rfl) ⟨_, _, _, g2, gAnd_intro (decide_eq_true ?_) (gAnd_intro (decide_eq_true ?_) (gAnd_intro (decide_eq_true ?_) (gAnd_intro (by rw [g1]; rfl) ⟨_, _, _, g2, gAnd_intro (decide_eq_true ?_) (gAnd_intro (decide_eq_true ?_) ih)⟩)))⟩)
      all_goals (simp only [List.length_append, List.length_cons, List.length_nil]; omega)
    · simp [encAs] at x; omega
theorem c13k : COk cfg2 13 wrC := by
  refine cok_pure pf13k fun vs h K ht => ?_
  obtain ⟨t, hl, rfl, hk⟩ := ht
  refine ⟨_, hk, ?_⟩
  have hl' : (Ex.written t).length ≤ 1000000 := hl
  have run : ∀ fin, (fin = if t.kind = 3 then [47, 62] else [62]) → Ex.written t = opensS ++ (t.name ++ (attrsS t.attrs ++ fin)) → 5 + t.name.length ≤ 1000000 ∧ ToEnd cfg2 13 (bodyOf Tryd.f13) (RetIs Tryd.prog Tryd.f13 (.str (Ex.written t))) [.code [0, 1, 0, 1, 0, 1, 1, 1, 1, 1, 0, 1, 0, 1], .block 1, .code [1, 1, 0, 1, 1, 1, 1, 1, 0, 1, 0, 1], .block 0, .code [1, 1]] .normal
      [(1, true, .ptr 0 0), (3, true, .str (60 :: 101 :: 115 :: 105 :: 58 :: t.name)), (4, true, .int .i64 0)] [.mem 32 [.int .i64 t.kind, .str t.name, .sl 3 (encAs t.attrs) none, .str t.text, .int .i64 t.fr, .int .i64 t.to]] := by
    intro fin hfin hw
    have hlen := congrArg List.length hw
    simp only [List.length_append, opensS, List.length_cons, List.length_nil] at hlen
    have hc := attrsS_count t.attrs
    have := loop13 (k := t.kind) (nm := t.name) (tx := t.text) (fr := t.fr) (to := t.to) hfin t.attrs [] (60 :: 101 :: 115 :: 105 :: 58 :: t.name) (by simp only [List.length_cons]; unfold limE; omega) (by simp only [List.length_nil]; unfold limE; omega)
    refine ⟨by omega, ?_⟩
    rw [hw]
    exact this
  refine t13 tab13 (ifP_intro (fun x => ?_) fun x4 => ifP_intro (fun x => ?_) fun x5 => ifP_intro (fun x => ?_) fun x2 => ifP_intro (fun x => ?_) fun x3 => ?_)
  · have hk4 : t.kind = 4 := by simpa using x
    have hw : Ex.written t = closesS ++ (t.name ++ [62]) := by unfold Ex.written; rw [if_pos hk4]
    have hlen := congrArg List.length hw
    simp only [List.length_append, closesS, List.length_cons, List.length_nil] at hlen
    refine gAnd_intro (decide_eq_true (by omega)) (gAnd_intro (decide_eq_true ?_) ?_)
    · show (60 :: 47 :: 101 :: 115 :: 105 :: 58 :: t.name).length + 1 ≤ _
      simp only [List.length_cons]; omega
    · rw [hw]; rfl
  · have hk4 : ¬ t.kind = 4 := by simpa using x4
    have hk5 : t.kind = 5 := by simpa using x
    unfold Ex.written
    rw [if_neg hk4, if_pos hk5]
    rfl
  · have hk4 : ¬ t.kind = 4 := by simpa using x4
    have hk5 : ¬ t.kind = 5 := by simpa using x5
    have hk2 : t.kind = 2 := by simpa using x
    obtain ⟨q1, q2⟩ := run [62] (by rw [if_neg (by omega)]) (by unfold Ex.written; rw [if_neg hk4, if_neg hk5, if_pos hk2])
    exact gAnd_intro (decide_eq_true (by omega)) q2
  · have hk4 : ¬ t.kind = 4 := by simpa using x4
    have hk5 : ¬ t.kind = 5 := by simpa using x5
    have hk2 : ¬ t.kind = 2 := by simpa using x2
    have hk3 : t.kind = 3 := by simpa using x
    obtain ⟨q1, q2⟩ := run [47, 62] (by rw [if_pos hk3]) (by unfold Ex.written; rw [if_neg hk4, if_neg hk5, if_neg hk2, if_pos hk3])
    exact gAnd_intro (decide_eq_true (by omega)) q2
  · have hk4 : ¬ t.kind = 4 := by simpa using x4
    have hk5 : ¬ t.kind = 5 := by simpa using x5
    have hk2 : ¬ t.kind = 2 := by simpa using x2
    have hk3 : ¬ t.kind = 3 := by simpa using x3
    unfold Ex.written
    rw [if_neg hk4, if_neg hk5, if_neg hk2, if_neg hk3]
theorem tab6 : TabOk cfg2 (ctab [(8, tokC), (7, yesC), (13, wrC)]) := ctab_ok (ctab_cons c8k (ctab_cons c7 (ctab_cons c13k ctab_nil)))
theorem again_in {l m : List Tok} {i : Int} {k fr to k2 fr2 to2 : Int} {nm tx nm2 tx2 : List UInt8} (ih : ToEnd cfg2 6 (bodyOf Tryd.f6) (RetIs Tryd.prog Tryd.f6 (.bool true)) [.code [0, 1, 0, 1, 1, 1, 1, 1, 1, 1, 1], .block 2, .code [1, 1, 1, 1, 1, 1, 1, 1, 1]] .normal [(3, true, .sl 6 (encTs l) none), (8, true, .sl 6 (encTs m) none), (11, true, .int .i64 (IntKind.wrap .i64 (i + 1)))] []) :
    ∀ (r z p q : List Att), sameAs r z → p.length = q.length → p.length + r.length ≤ limE →
    ToEnd cfg2 6 (bodyOf Tryd.f6) (RetIs Tryd.prog Tryd.f6 (.bool true)) [.code [0, 1, 1, 1, 0, 0, 1, 0, 0, 1, 0, 1, 1, 1, 1, 1, 1, 1, 1], .block 4, .block 3, .code [1, 1, 0, 0, 1, 0, 1, 1, 1, 1, 1, 1, 1, 1], .loop [0, 1, 0, 1, 1, 1, 1, 1, 1, 1, 1] 0, .block 2, .code [1, 1, 1, 1, 1, 1, 1, 1, 1]] .normal
      [(3, true, .sl 6 (encTs l) none), (8, true, .sl 6 (encTs m) none), (11, true, .int .i64 i), (12, true, .ptr 0 0), (13, true, .ptr 1 0), (14, true, .int .i64 p.length)]
      [.mem 32 [.int .i64 k, .str nm, .sl 3 (encAs (p ++ r)) none, .str tx, .int .i64 fr, .int .i64 to], .mem 32 [.int .i64 k2, .str nm2, .sl 3 (encAs (q ++ z)) none, .str tx2, .int .i64 fr2, .int .i64 to2]]
  | [], [], p, q, _, hpq, hl => by
    refine t6c tab6 (ifP_intro (fun x => ?_) fun _ => gAnd_intro (by rw [low_ts, low_ts]; rfl) ih)
    simp [encAs] at x
  | a :: r, b :: z, p, q, hs, hpq, hl => by
    obtain ⟨s1, s2, s3⟩ := hs
    have hl' : p.length + (r.length + 1) ≤ 1000000 := hl
    obtain ⟨g1, g2⟩ := get_as p a r rfl
    obtain ⟨g3, g4⟩ := get_as q b z (i := (p.length : Int)) (by rw [hpq])
    have nx := again_in (k := k) (fr := fr) (to := to) (k2 := k2) (fr2 := fr2) (to2 := to2) (nm := nm) (tx := tx) (nm2 := nm2) (tx2 := tx2) ih r z (p ++ [a]) (q ++ [b]) s3 (by simp [hpq]) (by simp; unfold limE; omega)
    rw [show ((p ++ [a]).length : Int) = IntKind.wrap .i64 ((p.length : Int) + 1) by rw [wrap_in (by omega) (by omega)]; simp, show p ++ [a] ++ r = p ++ a :: r by simp, show q ++ [b] ++ z = q ++ b :: z by simp] at nx
    refine t6c tab6 (ifP_intro (fun _ => gAnd_intro (by rw [g1]; rfl) ⟨_, _, _, g2, gAnd_intro (by rw [g3]; rfl) ⟨_, _, _, g4, ifP_intro (fun x => ?_) fun _ => gAnd_intro (by rw [g1]; rfl) ⟨_, _, _, g2, gAnd_intro (by rw [g3]; rfl) ⟨_, _, _, g4, ifP_intro (fun x => ?_) fun _ => gAnd_intro (by rw [low_ts, low_ts, low_as, low_as]; rfl) nx⟩⟩⟩⟩) fun x => ?_)
    · simp [s1] at x
    · simp [s2] at x
    · simp [encAs] at x; omega
  | [], _ :: _, _, _, h, _, _ => h.elim
  | _ :: _, [], _, _, h, _, _ => h.elim
theorem sameAs_len : ∀ {l m : List Att}, sameAs l m → m.length = l.length
  | [], [], _ => rfl
  | a :: r, b :: q, h => by rw [List.length_cons, List.length_cons, sameAs_len h.2.2]
  | [], _ :: _, h => h.elim
  | _ :: _, [], h => h.elim
theorem again_cmp : ∀ (r z p q : List Tok), sameL r z → p.length = q.length → p.length + r.length ≤ 20000 → (∀ t ∈ r, fits t ∧ (Ex.written t).length ≤ 6000) →
    ToEnd cfg2 6 (bodyOf Tryd.f6) (RetIs Tryd.prog Tryd.f6 (.bool true)) [.code [0, 1, 0, 1, 1, 1, 1, 1, 1, 1, 1], .block 2, .code [1, 1, 1, 1, 1, 1, 1, 1, 1]] .normal [(3, true, .sl 6 (encTs (p ++ r)) none), (8, true, .sl 6 (encTs (q ++ z)) none), (11, true, .int .i64 p.length)] []
  | [], [], p, q, _, hpq, hl, hf => by
    refine t6b tab6 (ifP_intro (fun x => ?_) fun _ => ⟨rfl, rfl⟩)
    simp [encTs] at x
  | a :: r, b :: z, p, q, hs, hpq, hl, hf => by
    obtain ⟨⟨s1, s2, s3, s4⟩, s5⟩ := hs
    rw [List.length_cons] at hl
    obtain ⟨g1, g2⟩ := get_mid p a r rfl
    obtain ⟨g3, g4⟩ := get_mid q b z (i := (p.length : Int)) (by rw [hpq])
    obtain ⟨hf1, hf2⟩ := hf a (by simp)
    have hc := fits_count hf1
    have nx := again_cmp r z (p ++ [a]) (q ++ [b]) s5 (by simp [hpq]) (by simp; omega) fun t ht => hf t (by simp [ht])
    rw [show ((p ++ [a]).length : Int) = IntKind.wrap .i64 ((p.length : Int) + 1) by rw [wrap_in (by omega) (by omega)]; simp, show p ++ [a] ++ r = p ++ a :: r by simp, show q ++ [b] ++ z = q ++ b :: z by simp] at nx
    refine t6b tab6 (ifP_intro (fun _ => gAnd_intro (by rw [g1]; rfl) ⟨_, _, _, _, _, _, g2, gAnd_intro (by rw [g3]; rfl) ⟨_, _, _, _, _, _, g4, ifP_intro (fun x => ?_) fun _ => ifP_intro (fun x => ?_) fun _ => ⟨a, by omega, ?_, ifP_intro (fun x => ?_) fun _ => ifP_intro (fun x => ?_) fun _ => ?_⟩⟩⟩) fun x => ?_)
    · simp [s1] at x
    · simp [s2] at x
    · rw [stripss_low 0 [] _ (low_as 0 _)]
    · simp [s3] at x
    · have := sameAs_len s4
      simp [encAs, this] at x
    · exact again_in nx a.attrs b.attrs [] [] s4 rfl (by simp only [List.length_nil]; unfold limE; omega)
    · simp [encTs] at x; omega
  | [], _ :: _, _, _, h, _, _, _ => h.elim
  | _ :: _, [], _, _, h, _, _, _ => h.elim
theorem again_out {l m : List Tok} (hm : lexM (Ex.outS l) = .ok m) (hs : sameL l m) (ho : (Ex.outS l).length ≤ 6000) (hn : l.length ≤ 20000) (hf : ∀ t ∈ l, fits t) : ∀ (r p : List Tok), l = p ++ r →
    ToEnd cfg2 6 (bodyOf Tryd.f6) (RetIs Tryd.prog Tryd.f6 (.bool true)) [.code [0, 1, 0, 1, 1, 1, 1, 1], .block 0, .code [1, 1, 1, 1, 1, 1]] .normal [(3, true, .sl 6 (encTs l) none), (6, true, .str (Ex.outS p)), (7, true, .int .i64 p.length)] []
  | [], p, hp => by
    rw [List.append_nil] at hp
    subst hp
    refine t6a tab6 (ifP_intro (fun x => ?_) fun _ => ⟨Ex.outS l, by omega, rfl, fun e' e he => ?_, fun m' hm' => ?_⟩)
    · simp [encTs] at x
    · rw [hm] at he; cases he
    · rw [hm] at hm'
      injection hm' with hm'
      subst hm'
      refine ifP_intro (fun x => ?_) fun _ => ?_
      · have := sameL_len hs
        simp [encTs, this] at x
      · exact again_cmp l m [] [] hs rfl (by simpa using hn) fun t ht => ⟨hf t ht, by have := outS_mem ht; omega⟩
  | t :: r, p, hp => by
    have hlen : l.length = p.length + (r.length + 1) := by rw [hp]; simp
    obtain ⟨g1, g2⟩ := get_mid p t r rfl
    rw [← hp] at g1 g2
    have nx := again_out hm hs ho hn hf r (p ++ [t]) (by rw [hp]; simp)
    have hw : (Ex.outS p).length + (Ex.written t).length ≤ (Ex.outS l).length := by rw [hp, outS_app, Ex.outS, List.length_append, List.length_append]; omega
    rw [show ((p ++ [t]).length : Int) = IntKind.wrap .i64 ((p.length : Int) + 1) by rw [wrap_in (by omega) (by omega)]; simp, show Ex.outS (p ++ [t]) = Ex.outS p ++ Ex.written t by rw [outS_app]; simp [Ex.outS]] at nx
    refine t6a tab6 (ifP_intro (fun _ => gAnd_intro (by rw [g1]; rfl) ⟨_, _, _, _, _, _, g2, t, by omega, ?_, gAnd_intro (decide_eq_true (by omega)) (gAnd_intro (by rw [low_ts]; rfl) nx)⟩) fun x => ?_)
    · rw [stripss_low 0 [] _ (low_as 0 _)]
    · simp [encTs] at x; omega
theorem c6 : COk cfg2 6 (fun vs h K => ∃ s : List UInt8, vs = [.str s] ∧ K (.bool true) h) := by
  refine cok_pure pf6k fun vs h K ht => ?_
  obtain ⟨s, rfl, hk⟩ := ht
  refine ⟨_, hk, t6 tab6 (ifP_intro (fun _ => ⟨rfl, rfl⟩) fun x => ?_)⟩
  have hs : s.length ≤ 6000 := by simp at x; omega
  refine ⟨s, by omega, rfl, fun p e he => ?_, fun l hl => ?_⟩
  · exact ifP_intro (fun _ => ⟨rfl, rfl⟩) fun y => absurd (by simpa using y) (lexM_e he)
  · have hw := lexM_whole hl
    have hf := lexM_fit hl
    have hn : l.length ≤ 20000 := by rcases WG_len l 0 none false hw (by omega) with h | ⟨_, h⟩ <;> omega
    have ho := WG_out l 0 none false hw hf (by omega)
    obtain ⟨m, hm, hsame⟩ := lexM_again hl
    exact again_out hm hsame (by omega) hn hf l [] rfl
end Go.Proofs.YtolmmodgneodbaaDoor
end
