/-
  Lists of texts in plain terms: small letters, pieces between marks, numbers, where a body ends. No statement about the program is made here.
  Contracts of the functions of lists of texts, and of where a body ends. No statement about the program is made here.
  Lists of cells: places, what is written, what is low. No statement about the program is made here.
  Arguments of the statements, by their types.
-/
import Derived.Test.YtnncfdlpogjlkaaDoorQAiLaw
import Derived.Lib.SlTrimSet
import Derived.Test.YtnncfdlpogjlkaaDoorQAiPrims4
import Derived.Lib.AtoiTie
import Derived.Test.YtnncfdlpogjlkaaDoorQCfg
section
namespace Go.Ai
open Go.RowKit
set_option linter.unusedVariables false

/-! Small letters -/
def lowC (c : UInt8) : UInt8 := if 65 ≤ c.toNat ∧ c.toNat ≤ 90 then c + 32 else c
def lowS (s : List UInt8) : List UInt8 := s.map lowC
theorem lowS_len (s : List UInt8) : (lowS s).length = s.length := by simp [lowS]

/-! Without blanks at the ends -/
def isBl (c : UInt8) : Bool := c == 32 || c == 9
def trB (s : List UInt8) : List UInt8 := Lib.trimS s [32, 9]
theorem contains_bl (c : UInt8) : [32, 9].contains c = isBl c := by
  simp only [List.contains, List.elem, isBl]
  cases c == 32 <;> cases c == 9 <;> rfl
theorem trB_cut {s : List UInt8} {a b : Nat} (hab : a ≤ b) (hb : b ≤ s.length) (h1 : ∀ (j : Nat) x, j < a → s[j]? = some x → isBl x = true) (h2 : ∀ (j : Nat) x, b ≤ j → s[j]? = some x → isBl x = true)
    (h3 : a = b ∨ ((∀ x, s[a]? = some x → isBl x = false) ∧ ∀ x, s[b - 1]? = some x → isBl x = false)) : trB s = (s.take b).drop a := by
  unfold trB Lib.trimS
  rcases Nat.eq_or_lt_of_le hab with rfl | hlt
  · rw [Lib.trimRightS_take s [32, 9] 0 (by omega) (fun j x _ hx => by rw [contains_bl]; rcases Nat.lt_or_ge j a with h | h; exact h1 j x h hx; exact h2 j x h hx) (fun x h => by omega)]
    simp [Lib.trimLeftS]
  · rcases h3 with h3 | ⟨h3, h4⟩
    · omega
    rw [Lib.trimRightS_take s [32, 9] b hb (fun j x hj hx => by rw [contains_bl]; exact h2 j x hj hx) (fun x _ hx => by rw [contains_bl]; exact h4 x hx)]
    refine Lib.trimLeftS_drop _ _ a (by simp; omega) (fun j x hj hx => ?_) (fun x hx => ?_)
    · rw [contains_bl]
      rw [List.getElem?_take, if_pos (by omega)] at hx
      exact h1 j x hj hx
    · rw [contains_bl]
      rw [List.getElem?_take, if_pos (by omega)] at hx
      exact h3 x hx
theorem dropWhile_len {p : UInt8 → Bool} : ∀ (l : List UInt8), (l.dropWhile p).length ≤ l.length
  | [] => by simp
  | c :: r => by
    rw [List.dropWhile_cons]
    split
    · have := dropWhile_len (p := p) r; simp; omega
    · simp
theorem trB_len (s : List UInt8) : (trB s).length ≤ s.length := by
  unfold trB Lib.trimS Lib.trimLeftS Lib.trimRightS
  refine Nat.le_trans (dropWhile_len _) ?_
  rw [List.length_reverse]
  refine Nat.le_trans (dropWhile_len _) ?_
  simp

/-! Pieces between marks -/
def keepP (p : List UInt8) : List (List UInt8) := match trB p with
  | [] => []
  | c :: q => [c :: q]
theorem keepP_eq (p : List UInt8) : keepP p = if trB p = [] then [] else [trB p] := by
  unfold keepP
  cases trB p <;> simp
def splG (sep : UInt8) : List UInt8 → Bool → Bool → List UInt8 → List (List UInt8)
  | cur, _, _, [] => keepP cur
  | cur, op, be, c :: r =>
    if be = true then splG sep (cur ++ [c]) op false r
    else if op = true ∧ c = 92 then splG sep (cur ++ [c]) op true r
    else if c = 34 then splG sep (cur ++ [c]) (!op) false r
    else if c = sep ∧ op = false then keepP cur ++ splG sep [] op false r
    else splG sep (cur ++ [c]) op false r
def opnG : Bool → Bool → List UInt8 → Bool
  | op, _, [] => op
  | op, be, c :: r =>
    if be = true then opnG op false r
    else if op = true ∧ c = 92 then opnG op true r
    else if c = 34 then opnG (!op) false r
    else opnG op false r
def splitS (sep : UInt8) (s : List UInt8) : List (List UInt8) × Int :=
  if opnG false false s = true then ([], 4) else if 64 < (splG sep [] false false s).length then ([], 3) else (splG sep [] false false s, 0)
/-- Which bytes stand in a quote. -/
def quoG : Bool → Bool → List UInt8 → List Bool
  | _, _, [] => []
  | op, be, c :: r =>
    if be = true then true :: quoG op false r
    else if op = true ∧ c = 92 then true :: quoG op true r
    else if c = 34 then true :: quoG (!op) false r
    else op :: quoG op false r
theorem quoG_len : ∀ (s : List UInt8) (op be : Bool), (quoG op be s).length = s.length
  | [], _, _ => rfl
  | c :: r, op, be => by
    rw [quoG]
    repeat' split
    all_goals simp [quoG_len r]
def refG (sep : UInt8) : List UInt8 → List UInt8 → List Bool → List (List UInt8)
  | cur, [], _ => keepP cur
  | cur, c :: r, [] => keepP cur
  | cur, c :: r, f :: fs => if c ≠ sep ∨ f = true then refG sep (cur ++ [c]) r fs else keepP cur ++ refG sep [] r fs
theorem refG_eq {sep : UInt8} (h1 : sep ≠ 34) (h2 : sep ≠ 92) : ∀ (s cur : List UInt8) (op be : Bool), (be = true → op = true) → refG sep cur s (quoG op be s) = splG sep cur op be s
  | [], cur, op, be, _ => rfl
  | c :: r, cur, op, be, hb => by
    rw [quoG, splG]
    by_cases e1 : be = true
    · rw [if_pos e1, if_pos e1, refG, if_pos (.inr rfl)]
      exact refG_eq h1 h2 r _ _ _ (by simp)
    rw [if_neg e1, if_neg e1]
    by_cases e2 : op = true ∧ c = 92
    · rw [if_pos e2, if_pos e2, refG, if_pos (.inr rfl)]
      exact refG_eq h1 h2 r _ _ _ (fun _ => e2.1)
    rw [if_neg e2, if_neg e2]
    by_cases e3 : c = 34
    · rw [if_pos e3, if_pos e3, refG, if_pos (.inr rfl)]
      exact refG_eq h1 h2 r _ _ _ (by simp)
    rw [if_neg e3, if_neg e3, refG]
    by_cases e4 : c = sep ∧ op = false
    · rw [if_pos e4, if_neg (by rintro (h | h); exact h e4.1; rw [e4.2] at h; cases h)]
      rw [refG_eq h1 h2 r _ _ _ (by simp)]
    · rw [if_neg e4, if_pos (by
        by_cases h : c = sep
        · right
          cases op
          · exact absurd ⟨h, rfl⟩ e4
          · rfl
        · exact .inl h)]
      exact refG_eq h1 h2 r _ _ _ (by simp)
theorem keepP_mem {p q : List UInt8} (h : q ∈ keepP p) : q ≠ [] ∧ q.length ≤ p.length := by
  rw [keepP_eq] at h
  split at h
  · cases h
  · simp only [List.mem_singleton] at h
    subst h
    exact ⟨by assumption, trB_len p⟩
theorem splG_mem {sep : UInt8} : ∀ (s cur : List UInt8) (op be : Bool) (q : List UInt8), q ∈ splG sep cur op be s → q ≠ [] ∧ q.length ≤ cur.length + s.length
  | [], cur, op, be, q, h => by
    have := keepP_mem h
    exact ⟨this.1, by simpa using this.2⟩
  | c :: r, cur, op, be, q, h => by
    have key : ∀ op be, q ∈ splG sep (cur ++ [c]) op be r → q ≠ [] ∧ q.length ≤ cur.length + (c :: r).length := fun op be h => by
      have := splG_mem r _ _ _ q h
      refine ⟨this.1, ?_⟩
      have h2 := this.2
      simp at h2 ⊢
      omega
    rw [splG] at h
    repeat' split at h
    all_goals first
      | exact key _ _ h
      | rcases List.mem_append.1 h with h | h
        · have := keepP_mem h
          exact ⟨this.1, by have := this.2; simp; omega⟩
        · have := splG_mem r _ _ _ q h
          exact ⟨this.1, by have := this.2; simp at this ⊢; omega⟩
theorem splG_len {sep : UInt8} : ∀ (s cur : List UInt8) (op be : Bool), (splG sep cur op be s).length ≤ s.length + 1
  | [], cur, op, be => by rw [splG, keepP_eq]; split <;> simp
  | c :: r, cur, op, be => by
    rw [splG]
    repeat' split
    all_goals first
      | (have := splG_len (sep := sep) r (cur ++ [c]) op false; simp only [List.length_cons]; omega)
      | (have := splG_len (sep := sep) r (cur ++ [c]) op true; simp only [List.length_cons]; omega)
      | (have := splG_len (sep := sep) r (cur ++ [c]) (!op) false; simp only [List.length_cons]; omega)
      | (have := splG_len (sep := sep) r [] op false
         have h2 : (keepP cur).length ≤ 1 := by rw [keepP_eq]; split <;> simp
         simp only [List.length_append, List.length_cons]; omega)
theorem splitS_mem {sep : UInt8} {s q : List UInt8} (h : q ∈ (splitS sep s).1) : q ≠ [] ∧ q.length ≤ s.length := by
  unfold splitS at h
  split at h
  · cases h
  · split at h
    · cases h
    · have := splG_mem s [] _ _ q h
      exact ⟨this.1, by simpa using this.2⟩
theorem splitS_len (sep : UInt8) (s : List UInt8) : (splitS sep s).1.length ≤ 64 := by
  unfold splitS
  split
  · simp
  · split
    · simp
    · simp only; omega

/-! Fields -/
structure Fld where
  name : List UInt8
  value : List UInt8
def encF (f : Fld) : List AV := [.str f.name, .str f.value]
def encFs (l : List Fld) : List (List AV) := l.map encF
def encS (l : List (List UInt8)) : List (List AV) := l.map fun s => [.str s]
def valuesOf (l : List Fld) (nm : List UInt8) : List (List UInt8) := (l.filter fun f => lowS f.name == lowS nm).map (·.value)
/-- Pieces of values, one behind the other; none, if one of them has an error. -/
def pcs : List (List UInt8) → Option (List (List UInt8))
  | [] => some []
  | v :: r => if (splitS 44 v).2 = 0 then (pcs r).map ((splitS 44 v).1 ++ ·) else none

/-! Numbers -/
def dgB (c : UInt8) : Bool := decide (48 ≤ c.toNat) && decide (c.toNat ≤ 57)
def dgV : Nat → List UInt8 → Nat
  | n, [] => n
  | n, c :: r => dgV (10 * n + (c.toNat - 48)) r
def numB (s : List UInt8) : Bool := !s.isEmpty && decide (s.length ≤ 18) && s.all dgB
def numV (s : List UInt8) : Nat := dgV 0 s
def lenV (ps : List (List UInt8)) : Int × Int :=
  if ps.all numB = true then (if ps.all (fun p => numV p == numV (ps.headD [])) = true then ((numV (ps.headD []) : Nat), 0) else (0, 8)) else (0, 4)

def clS : List UInt8 := [99, 111, 110, 116, 101, 110, 116, 45, 108, 101, 110, 103, 116, 104]
def teS : List UInt8 := [116, 114, 97, 110, 115, 102, 101, 114, 45, 101, 110, 99, 111, 100, 105, 110, 103]
def chS : List UInt8 := [99, 104, 117, 110, 107, 101, 100]
/-- What a length, and what codings say: kind, number, error. -/
def byLen (a : List (List UInt8)) : Int × Int × Int :=
  match pcs a with
  | some (p :: ps) => if (lenV (p :: ps)).2 = 0 then (1, (lenV (p :: ps)).1, 0) else (0, 0, (lenV (p :: ps)).2)
  | _ => (0, 0, 4)
def byCod (b : List (List UInt8)) : Int × Int × Int :=
  match pcs b with
  | some [p] => if lowS p = chS then (2, 0, 0) else (0, 0, 4)
  | _ => (0, 0, 4)
def ofV (a b : List (List UInt8)) (other : Int) : Int × Int × Int :=
  if a ≠ [] ∧ b ≠ [] then (0, 0, 8) else if a ≠ [] then byLen a else if b ≠ [] then byCod b else (other, 0, 0)
def frm (l : List Fld) (other : Int) : Int × Int × Int := ofV (valuesOf l clS) (valuesOf l teS) other
def asksF (l : List Fld) : Int × Int × Int := if 65536 < (frm l 0).2.1 then (0, 0, 3) else frm l 0
def bareB (st : Int) : Bool := (decide (100 ≤ st) && decide (st ≤ 199)) || decide (st = 204) || decide (st = 304)
def tellsF (l : List Fld) (st : Int) (head : Bool) : Int × Int × Int :=
  if (frm l 3).2.2 ≠ 0 then (0, 0, (frm l 3).2.2) else if head = true ∨ bareB st = true then (0, 0, 0) else if 262144 < (frm l 3).2.1 then (0, 0, 3) else ((frm l 3).1, (frm l 3).2.1, 0)
end Go.Ai
end

section
namespace Go.Ai
open Go.RowKit
set_option linter.unusedVariables false

/-- A bound on lengths. -/
def lim : Nat := 10000000
/-- The greatest length. -/
def limB : Nat := 9223372036854775807
def lowerB : Con := fun vs h K => ∃ s : List UInt8, s.length ≤ limB ∧ vs = [.str s] ∧ K (.str (lowS s)) h
def likeB : Con := fun vs h K => ∃ a b : List UInt8, a.length ≤ limB ∧ b.length ≤ limB ∧ vs = [.str a, .str b] ∧ K (.bool (lowS a == lowS b)) h
def lowerC : Con := fun vs h K => ∃ s : List UInt8, s.length ≤ lim ∧ vs = [.str s] ∧ K (.str (lowS s)) h
def likeC : Con := fun vs h K => ∃ a b : List UInt8, a.length ≤ lim ∧ b.length ≤ lim ∧ vs = [.str a, .str b] ∧ K (.bool (lowS a == lowS b)) h
def trimC : Con := fun vs h K => ∃ s : List UInt8, s.length ≤ lim ∧ vs = [.str s] ∧ K (.str (trB s)) h
def trimSC : Con := fun vs h K => ∃ s cs : List UInt8, s.length ≤ lim ∧ cs.length ≤ 100 ∧ cs.all (fun b => Nat.blt b.toNat 128) = true ∧ vs = [.str s, .str cs] ∧ K (.str (Lib.trimS s cs)) h
def splitC : Con := fun vs h K => ∃ (s : List UInt8) (sep : UInt8), s.length ≤ lim ∧ sep ≠ 34 ∧ sep ≠ 92 ∧ vs = [.str s, .int .u8 sep.toNat] ∧ K (.tup [.sl 1 (encS (splitS sep s).1) none, .int .i64 (splitS sep s).2]) h
/-- Fields that may be gone through. -/
def okFs (l : List Fld) : Prop := l.length ≤ lim ∧ ∀ f ∈ l, f.name.length ≤ lim ∧ f.value.length ≤ lim
def okSs (l : List (List UInt8)) : Prop := l.length ≤ lim ∧ ∀ s ∈ l, s.length ≤ lim
/-- A slice's size, where it has places. -/
def szOk (sz n len : Nat) : Prop := sz = n ∨ len = 0
/-- Fields of any texts. -/
def okFb (l : List Fld) : Prop := l.length ≤ lim ∧ ∀ f ∈ l, f.name.length ≤ limB ∧ f.value.length ≤ limB
/-- Fields of any texts, of which those that are read may be gone through. -/
def okFw (l : List Fld) : Prop := okFb l ∧ okSs (valuesOf l clS) ∧ okSs (valuesOf l teS)
def valuesB : Con := fun vs h K => ∃ (l : List Fld) (nm : List UInt8) (sz : Nat), okFb l ∧ szOk sz 2 l.length ∧ nm.length ≤ lim ∧ vs = [.sl sz (encFs l) none, .str nm] ∧ K (.sl 1 (encS (valuesOf l nm)) none) h
def valuesC : Con := fun vs h K => ∃ (l : List Fld) (nm : List UInt8) (sz : Nat), okFs l ∧ szOk sz 2 l.length ∧ nm.length ≤ lim ∧ vs = [.sl sz (encFs l) none, .str nm] ∧ K (.sl 1 (encS (valuesOf l nm)) none) h
end Go.Ai
namespace Go.Ai
/-- Which bytes stand in a quote; whether none is open at the end. -/
def quotC : Con := fun vs h K => ∃ s : List UInt8, s.length ≤ lim ∧ vs = [.str s] ∧ K (.tup [.sl 1 ((quoG false false s).map fun b => [AV.bool b]) none, .bool (!opnG false false s)]) h
end Go.Ai
namespace Go.Ai
/-- A piece is taken, from a place on; it is kept, if it is not empty. -/
def takeC : Con := fun vs h K => match h with
  | [.mem t0 [.str s], .grow g s1 e1, .grow n s2 e2, .mem t3 [.sl s3 es (some i3)], .mem t4 [.int k4 f]] =>
    ∃ (acc : List (List UInt8)) (a b : Nat), (s1 = 1 ∧ e1 = 9 ∧ s2 = 1 ∧ e2 = 9 ∧ s3 = 1 ∧ i3 = 2 ∧ k4 = .i64 ∧ t0 = 9 ∧ t3 = 39 ∧ t4 = 3) ∧ es = encS acc ∧ n = acc.length ∧ f = a ∧ a ≤ b ∧ b ≤ s.length ∧ s.length ≤ lim ∧ acc.length ≤ b ∧ vs = [.int .i64 b, .ptr 0 0, .ptr 4 0, .ptr 3 0] ∧
      K (.tup []) [.mem 9 [.str s], .grow g 1 9, .grow (acc ++ keepP ((s.take b).drop a)).length 1 9, .mem 39 [.sl 1 (encS (acc ++ keepP ((s.take b).drop a))) (some 2)], .mem 3 [.int .i64 ((b + 1 : Nat) : Int)]]
  | _ => False
end Go.Ai
namespace Go.Ai
def pcsE (l : List (List UInt8)) : List (List UInt8) × Int := match pcs l with
  | some (p :: ps) => (p :: ps, 0)
  | _ => ([], 4)
def pcsR (l : List (List UInt8)) : List (List UInt8) × Bool := match pcs l with
  | some ps => (ps, !ps.isEmpty)
  | none => ([], false)
def lenA (l : List (List UInt8)) : Int × Int := match pcs l with
  | some (p :: ps) => lenV (p :: ps)
  | _ => (0, 4)
def piecesC : Con := fun vs h K => ∃ (l : List (List UInt8)) (sz : Nat), okSs l ∧ szOk sz 1 l.length ∧ vs = [.sl sz (encS l) none] ∧ K (.tup [.sl 1 (encS (pcsE l).1) none, .int .i64 (pcsE l).2]) h
def piecesRC : Con := fun vs h K => ∃ (l : List Fld) (nm : List UInt8) (sz : Nat), okFs l ∧ szOk sz 2 l.length ∧ nm.length ≤ lim ∧ vs = [.sl sz (encFs l) none, .str nm] ∧ K (.tup [.sl 1 (encS (pcsR (valuesOf l nm)).1) none, .bool (pcsR (valuesOf l nm)).2]) h
def lengthC : Con := fun vs h K => ∃ (l : List (List UInt8)) (sz : Nat), okSs l ∧ szOk sz 1 l.length ∧ vs = [.sl sz (encS l) none] ∧ K (.tup [.int .i64 (lenA l).1, .int .i64 (lenA l).2]) h
def ofC : Con := fun vs h K => ∃ (l : List Fld) (sz : Nat) (o : Int), okFw l ∧ szOk sz 2 l.length ∧ vs = [.sl sz (encFs l) none, .int .i64 o] ∧ K (.tup [.agg [.int .i64 (frm l o).1, .int .i64 (frm l o).2.1], .int .i64 (frm l o).2.2]) h
def ofRC : Con := fun vs h K => ∃ (l : List Fld) (sz : Nat), okFs l ∧ szOk sz 2 l.length ∧ vs = [.sl sz (encFs l) none] ∧ K (.tup [.agg [.int .i64 (frm l 0).1, .int .i64 (frm l 0).2.1], .bool (!((valuesOf l clS).isEmpty && (valuesOf l teS).isEmpty)), .int .i64 (frm l 0).2.2]) h
def askFB : Con := fun vs h K => ∃ (l : List Fld) (sz : Nat), okFw l ∧ szOk sz 2 l.length ∧ vs = [.sl sz (encFs l) none] ∧ K (.tup [.agg [.int .i64 (asksF l).1, .int .i64 (asksF l).2.1], .int .i64 (asksF l).2.2]) h
def askFC : Con := fun vs h K => ∃ (l : List Fld) (sz : Nat), okFs l ∧ szOk sz 2 l.length ∧ vs = [.sl sz (encFs l) none] ∧ K (.tup [.agg [.int .i64 (asksF l).1, .int .i64 (asksF l).2.1], .int .i64 (asksF l).2.2]) h
def tellFB : Con := fun vs h K => ∃ (l : List Fld) (sz : Nat) (st : Int) (hd : Bool), okFw l ∧ szOk sz 2 l.length ∧ -9223372036854775808 ≤ st ∧ st ≤ 9223372036854775807 ∧ vs = [.sl sz (encFs l) none, .int .i64 st, .bool hd] ∧ K (.tup [.agg [.int .i64 (tellsF l st hd).1, .int .i64 (tellsF l st hd).2.1], .int .i64 (tellsF l st hd).2.2]) h
def tellFC : Con := fun vs h K => ∃ (l : List Fld) (sz : Nat) (st : Int) (hd : Bool), okFs l ∧ szOk sz 2 l.length ∧ -9223372036854775808 ≤ st ∧ st ≤ 9223372036854775807 ∧ vs = [.sl sz (encFs l) none, .int .i64 st, .bool hd] ∧ K (.tup [.agg [.int .i64 (tellsF l st hd).1, .int .i64 (tellsF l st hd).2.1], .int .i64 (tellsF l st hd).2.2]) h
def atoiC : Con := fun vs h K => ∃ s : List UInt8, s.length ≤ lim ∧ vs = [.str s] ∧ K (.tup [.int .i64 (atoiV s), .top]) h
def numC : Con := fun vs h K => ∃ s : List UInt8, s.length ≤ lim ∧ vs = [.str s] ∧ K (.tup [.int .i64 (if numB s = true then (numV s : Nat) else 0), .bool (numB s)]) h
end Go.Ai
namespace Go.Ai
def pairs : List (List UInt8) → List Fld
  | a :: b :: r => ⟨a, b⟩ :: pairs r
  | _ => []
def fldsC : Con := fun vs h K => ∃ l : List (List UInt8), l.length ≤ 100 ∧ vs = [.sl 1 (encS l) none] ∧ K (.sl 2 (encFs (pairs l)) none) h
def say1 (x : Int × Int × Int) (k n : Int) : Bool := if k < 0 then decide (x = (0, 0, -k)) else decide (x = (k, if k = 1 then n else 0, 0))
def saysB (l : List Fld) (a t z n : Int) : Bool := say1 (asksF l) a n && say1 (tellsF l 200 false) t n && say1 (tellsF l 304 false) z n
def saysC : Con := fun vs h K => ∃ (l : List Fld) (sz : Nat) (a t z n : Int), okFs l ∧ szOk sz 2 l.length ∧ (-100 ≤ a ∧ a ≤ 100 ∧ -100 ≤ t ∧ t ≤ 100 ∧ -100 ≤ z ∧ z ≤ 100) ∧ vs = [.sl sz (encFs l) none, .int .i64 a, .int .i64 t, .int .i64 z, .int .i64 n] ∧ K (.bool (saysB l a t z n)) h
def repC : Con := fun vs h K => ∃ (s : List UInt8) (n : Nat), s.length ≤ 1000 ∧ n ≤ 100000 ∧ vs = [.str s, .int .i64 n] ∧ K (.str (Lib.repeatL s n)) h
def trueC : Con := fun vs h K => vs.isEmpty = true ∧ K (.bool true) h
def sameFs : List Fld → List Fld → Bool
  | [], [] => true
  | a :: r, b :: s => a.name == b.name && (a.value == b.value && true) && sameFs r s
  | _, _ => false
def sameFsC : Con := fun vs h K => ∃ (a b : List Fld) (sz sy : Nat), a.length ≤ lim ∧ szOk sz 2 a.length ∧ szOk sy 2 b.length ∧ vs = [.sl sz (encFs a) none, .sl sy (encFs b) none] ∧ K (.bool (sameFs a b)) h
/-- May fields be gone through? -/
def fewG : Int → List Fld → Bool
  | _, [] => true
  | n, x :: r => if (x.name.length : Int) > n ∨ (x.value.length : Int) > n - x.name.length then false else fewG (n - x.name.length - x.value.length) r
def fewB (l : List Fld) : Bool := if 80 < l.length then false else fewG 12000 l
def fewC : Con := fun vs h K => ∃ (l : List Fld) (sz : Nat), szOk sz 2 l.length ∧ (∀ f ∈ l, (f.name.length : Int) ≤ 9223372036854775807) ∧ vs = [.sl sz (encFs l) none] ∧ K (.bool (fewB l)) h
end Go.Ai
end

section
namespace Go.Ai
open Go.RowKit
set_option linter.unusedVariables false

def byteV (b : UInt8) : AV := .int .u8 (b.toNat : Int)
def bc (s : List UInt8) : List AV := s.map fun (b : UInt8) => AV.int IntKind.u8 ((UInt8.toNat b : Nat) : Int)
def rb (s : List UInt8) : List (List AV) := s.map fun (b : UInt8) => [AV.int IntKind.u8 ((UInt8.toNat b : Nat) : Int)]
theorem bc_len (s : List UInt8) : (bc s).length = s.length := by simp [bc]
theorem rb_len (s : List UInt8) : (rb s).length = s.length := by simp [rb]
theorem bc_app (a b : List UInt8) : bc (a ++ b) = bc a ++ bc b := by simp [bc]
theorem rb_app (a b : List UInt8) : rb (a ++ b) = rb a ++ rb b := by simp [rb]
theorem rb_one (c : UInt8) : rb [c] = [[AV.int IntKind.u8 ((UInt8.toNat c : Nat) : Int)]] := rfl
theorem cellB_b (b : UInt8) : cellB (.int .u8 ((UInt8.toNat b : Nat) : Int)) = true := by
  have := b.toNat_lt
  simp [cellB]; omega
theorem cellV_b (b : UInt8) : cellV (.int .u8 ((UInt8.toNat b : Nat) : Int)) = b := by simp [cellV]
theorem cellsB_bc (s : List UInt8) : cellsB (bc s) = true := by
  unfold cellsB bc
  rw [List.all_eq_true]
  intro x hx
  obtain ⟨b, _, rfl⟩ := List.mem_map.1 hx
  exact cellB_b b
theorem cellV_bc (s : List UInt8) : (bc s).map cellV = s := by
  unfold bc
  rw [List.map_map]
  conv => rhs; rw [← List.map_id s]
  exact List.map_congr_left fun b _ => cellV_b b
theorem rowsB_rb (s : List UInt8) : rowsB (rb s) = true := by
  unfold rowsB rb
  rw [List.all_eq_true]
  intro x hx
  obtain ⟨b, _, rfl⟩ := List.mem_map.1 hx
  exact cellB_b b
theorem rowV_rb (s : List UInt8) : (rb s).map rowV = s := by
  unfold rb
  rw [List.map_map]
  conv => rhs; rw [← List.map_id s]
  exact List.map_congr_left fun b _ => cellV_b b

theorem lowss_pure (n : Nat) : ∀ es : List (List AV), (∀ x ∈ es, lowVs n x = true) → lowVss n es = true
  | [], _ => rfl
  | x :: r, h => by rw [lowVss, h x (by simp), lowss_pure n r fun y hy => h y (by simp [hy])]; rfl
theorem low_rb (n : Nat) (s : List UInt8) : lowVss n (rb s) = true := lowss_pure n _ fun x hx => by
  obtain ⟨b, _, rfl⟩ := List.mem_map.1 hx
  rfl
theorem low_encFs (n : Nat) (l : List Fld) : lowVss n (encFs l) = true := lowss_pure n _ fun x hx => by
  obtain ⟨b, _, rfl⟩ := List.mem_map.1 hx
  rfl
theorem low_encS (n : Nat) (l : List (List UInt8)) : lowVss n (encS l) = true := lowss_pure n _ fun x hx => by
  obtain ⟨b, _, rfl⟩ := List.mem_map.1 hx
  rfl
theorem stripss_encFs (n : Nat) (h : Hp) (l : List Fld) : stripss n h (encFs l) = encFs l := stripss_low n h _ (low_encFs n l)
theorem stripss_encS (n : Nat) (h : Hp) (l : List (List UInt8)) : stripss n h (encS l) = encS l := stripss_low n h _ (low_encS n l)
theorem stripss_rb (n : Nat) (h : Hp) (l : List UInt8) : stripss n h (rb l) = rb l := stripss_low n h _ (low_rb n l)
theorem encFs_len (l : List Fld) : (encFs l).length = l.length := by simp [encFs]
theorem encS_len (l : List (List UInt8)) : (encS l).length = l.length := by simp [encS]
theorem encFs_app (a b : List Fld) : encFs (a ++ b) = encFs a ++ encFs b := by simp [encFs]
theorem encS_app (a b : List (List UInt8)) : encS (a ++ b) = encS a ++ encS b := by simp [encS]
theorem getE_fs (pre r : List Fld) (x : Fld) : getE (encFs (pre ++ x :: r)) (pre.length : Nat) = [.str x.name, .str x.value] := by
  unfold getE encFs
  simp [encF]
theorem getE_ss (pre r : List (List UInt8)) (x : List UInt8) : getE (encS (pre ++ x :: r)) (pre.length : Nat) = [.str x] := by
  unfold getE encS
  simp
theorem getE_rb (pre r : List UInt8) (x : UInt8) : getE (rb (pre ++ x :: r)) (pre.length : Nat) = [.int .u8 (x.toNat : Nat)] := by
  unfold getE rb
  simp
theorem at_pre (pre : List UInt8) (c : UInt8) (r : List UInt8) : List.getD (pre ++ c :: r) (Int.toNat (pre.length : Int)) 0 = c := by simp
theorem take_at {a r : List AV} {x : AV} {n : Nat} (h : n = a.length) : List.take 1 (List.drop n (a ++ x :: r)) = [x] := by subst h; simp
theorem splice_at {a r : List AV} {x v : AV} {n : Nat} (h : n = a.length) : splice (a ++ x :: r) n [v] = a ++ v :: r := by
  subst h
  simp [splice]
theorem wrap_n {n : Nat} (h : n ≤ lim) : IntKind.wrap .i64 ((n : Int) + 1) = ((n + 1 : Nat) : Int) := by
  unfold lim at h; rw [wrap_in] <;> omega
theorem wrap_u8 {a : Int} (h0 : 0 ≤ a) (h1 : a < 256) : IntKind.wrap .u8 a = a := by
  rw [IntKind.wrap_u8]; omega
theorem bool_av {a b : Bool} (h : a = true ↔ b = true) : AV.bool a = AV.bool b := by
  have : a = b := Bool.eq_iff_iff.2 h
  rw [this]
theorem inR_nat {n m : Nat} (h : n < m) : inR (n : Int) m = true := inR_of (by omega) (by omega)
theorem szOk.beq {sz n len : Nat} (h : szOk sz n len) (hl : 0 < len) (h1 : 1 ≤ n) : (Nat.beq sz n && Nat.ble 1 sz) = true := by
  rcases h with rfl | h
  · simp [Nat.beq_refl, Nat.ble_eq, h1]
  · omega
theorem lowC_toNat (c : UInt8) : (lowC c).toNat = if 65 ≤ c.toNat ∧ c.toNat ≤ 90 then c.toNat + 32 else c.toNat := by
  unfold lowC
  split
  · rename_i h
    rw [UInt8.toNat_add]
    have : (32 : UInt8).toNat = 32 := rfl
    omega
  · rfl
theorem tag_ok {h : Hp} {n sz e id : Nat} (hh : h[id]? = some (.grow n sz e)) : tagOk h n sz e (some id) = true := by
  simp [tagOk, hh, Nat.beq_refl]
end Go.Ai
namespace Go.Ai
theorem ueq {x : UInt8} {n : Int} (y : UInt8) (hy : (y.toNat : Int) = n) (h : ((x.toNat : Int) == n) = true) : x = y := by
  have : (x.toNat : Int) = n := by simpa using h
  exact UInt8.toNat_inj.1 (by omega)
theorem une {x : UInt8} {n : Int} (y : UInt8) (hy : (y.toNat : Int) = n) (h : ((x.toNat : Int) == n) = false) : x ≠ y := by
  rintro rfl
  rw [hy] at h
  simp at h
theorem unq {x : UInt8} {n : Int} (y : UInt8) (hy : (y.toNat : Int) = n) (h : ((x.toNat : Int) != n) = true) : x ≠ y := une y hy (by simpa [bne] using h)
theorem unq' {x : UInt8} {n : Int} (y : UInt8) (hy : (y.toNat : Int) = n) (h : ((x.toNat : Int) != n) = false) : x = y := ueq y hy (by simpa [bne] using h)
/-- How a split ends. -/
def splitEnd (o : Bool) (l : List (List UInt8)) : List (List UInt8) × Int := if o = true then ([], 4) else if 64 < l.length then ([], 3) else (l, 0)
def ansV (p : List (List UInt8) × Int) : AV := .tup [.sl 1 (encS p.1) none, .int .i64 p.2]
theorem keepP_len (p : List UInt8) : (keepP p).length ≤ 1 := by
  rw [keepP_eq]; split <;> simp
theorem keepP_none {p : List UInt8} (h : (!trB p == []) = false) : keepP p = [] := by
  rw [keepP_eq, if_pos (by simpa using h)]
theorem keepP_some {p : List UInt8} (h : (!trB p == []) = true) : keepP p = [trB p] := by
  rw [keepP_eq, if_neg (by simpa using h)]
theorem encS_one (acc : List (List UInt8)) (p : List UInt8) : encS acc ++ [[AV.str p]] = encS (acc ++ [p]) := by simp [encS]
end Go.Ai
namespace Go.Ai
open Go.RowKit
theorem ifP_true {p q : Prop} : ifP true p q = p := rfl
theorem ifP_false {p q : Prop} : ifP false p q = q := rfl
theorem pos_cons {α : Type} (x : α) (l : List α) : decide (((x :: l).length : Int) > 0) = true := decide_eq_true (by rw [List.length_cons]; omega)
theorem pos_nil {α : Type} : decide ((([] : List α).length : Int) > 0) = false := by simp
theorem zero_cons {α : Type} (x : α) (l : List α) : (((x :: l).length : Int) == 0) = false := by
  rw [beq_eq_false_iff_ne]; simp; omega
theorem zero_nil {α : Type} : ((([] : List α).length : Int) == 0) = true := by simp
theorem okSs_values {l : List Fld} (h : okFs l) (nm : List UInt8) : okSs (valuesOf l nm) := by
  refine ⟨?_, fun s hs => ?_⟩
  · unfold valuesOf
    rw [List.length_map]
    exact Nat.le_trans (List.length_filter_le _ _) h.1
  · obtain ⟨f, hf, rfl⟩ := List.mem_map.1 hs
    exact (h.2 f (List.mem_filter.1 hf).1).2
theorem okFb_of {l : List Fld} (h : okFs l) : okFb l := ⟨h.1, fun f hf => ⟨Nat.le_trans (h.2 f hf).1 (by decide), Nat.le_trans (h.2 f hf).2 (by decide)⟩⟩
theorem okFw_of {l : List Fld} (h : okFs l) : okFw l := ⟨okFb_of h, okSs_values h clS, okSs_values h teS⟩
theorem wrap_b {n : Nat} (h : n + 1 ≤ limB) : IntKind.wrap .i64 ((n : Int) + 1) = ((n + 1 : Nat) : Int) := by
  unfold limB at h; rw [wrap_in] <;> omega
theorem pcs_mem : ∀ {l ps : List (List UInt8)}, (∀ s ∈ l, s.length ≤ lim) → pcs l = some ps → ∀ p ∈ ps, p ≠ [] ∧ p.length ≤ lim
  | [], ps, _, h, p, hp => by
    simp only [pcs, Option.some.injEq] at h
    subst h; cases hp
  | v :: r, ps, hl, h, p, hp => by
    rw [pcs] at h
    split at h
    · cases hr : pcs r with
      | none => rw [hr] at h; cases h
      | some qs =>
        rw [hr] at h
        simp only [Option.map_some, Option.some.injEq] at h
        subst h
        rcases List.mem_append.1 hp with hp | hp
        · obtain ⟨q1, q2⟩ := splitS_mem hp
          exact ⟨q1, Nat.le_trans q2 (hl v (by simp))⟩
        · exact pcs_mem (fun s hs => hl s (by simp [hs])) hr p hp
    · cases h
theorem pcs_len : ∀ {l ps : List (List UInt8)}, pcs l = some ps → ps.length ≤ 64 * l.length
  | [], ps, h => by
    simp only [pcs, Option.some.injEq] at h
    subst h; simp
  | v :: r, ps, h => by
    rw [pcs] at h
    split at h
    · cases hr : pcs r with
      | none => rw [hr] at h; cases h
      | some qs =>
        rw [hr] at h
        simp only [Option.map_some, Option.some.injEq] at h
        subst h
        have := pcs_len hr
        have := splitS_len 44 v
        simp; omega
    · cases h
def finE (acc : List (List UInt8)) : Option (List (List UInt8)) → List (List UInt8) × Int
  | none => ([], 4)
  | some ps => if acc ++ ps = [] then ([], 4) else (acc ++ ps, 0)
def finR (acc : List (List UInt8)) : Option (List (List UInt8)) → List (List UInt8) × Bool
  | none => ([], false)
  | some ps => (acc ++ ps, !(acc ++ ps).isEmpty)
theorem finE_nil (l : List (List UInt8)) : finE [] (pcs l) = pcsE l := by
  unfold pcsE
  cases h : pcs l with
  | none => rfl
  | some ps => cases ps <;> rfl
theorem finR_nil (l : List (List UInt8)) : finR [] (pcs l) = pcsR l := by
  unfold pcsR
  cases h : pcs l with
  | none => rfl
  | some ps => rfl
theorem fin_step {v : List UInt8} {r acc : List (List UInt8)} (h : (splitS 44 v).2 = 0) : finE acc (pcs (v :: r)) = finE (acc ++ (splitS 44 v).1) (pcs r) ∧ finR acc (pcs (v :: r)) = finR (acc ++ (splitS 44 v).1) (pcs r) := by
  rw [pcs, if_pos h]
  cases pcs r with
  | none => exact ⟨rfl, rfl⟩
  | some ps => simp only [Option.map_some, finE, finR, List.append_assoc, and_self]
theorem fin_stop {v : List UInt8} {r acc : List (List UInt8)} (h : (splitS 44 v).2 ≠ 0) : finE acc (pcs (v :: r)) = ([], 4) ∧ finR acc (pcs (v :: r)) = ([], false) := by
  rw [pcs, if_neg h]; exact ⟨rfl, rfl⟩
theorem ne_of_bne {a : Int} (h : (a != 0) = true) : a ≠ 0 := by simpa using h
theorem eq_of_bne {a : Int} (h : (a != 0) = false) : a = 0 := by simpa using h

/-! Digits -/
def dgS : List UInt8 := [48, 49, 50, 51, 52, 53, 54, 55, 56, 57]
theorem dg_mem (c : UInt8) : dgS.contains c = dgB c := by
  have key : ∀ n : Nat, n < 256 → dgS.contains (UInt8.ofNat n) = dgB (UInt8.ofNat n) := by decide +kernel
  have := key c.toNat c.toNat_lt
  simpa using this
theorem dropWhile_nil {p : UInt8 → Bool} : ∀ {l : List UInt8}, l.dropWhile p = [] ↔ l.all p = true
  | [] => by simp
  | c :: r => by
    rw [List.dropWhile_cons, List.all_cons]
    split
    · rename_i h; rw [h, Bool.true_and]; exact dropWhile_nil
    · rename_i h; simp [h]
theorem dropWhile_all {p : UInt8 → Bool} {l : List UInt8} (h : ∀ x ∈ l.dropWhile p, p x = true) : l.dropWhile p = [] := by
  induction l with
  | nil => rfl
  | cons c r ih =>
    rw [List.dropWhile_cons] at h ⊢
    split
    · rename_i hc; rw [if_pos hc] at h; exact ih h
    · rename_i hc; rw [if_neg hc] at h; exact absurd (h c (by simp)) hc
theorem trim_dg (p : List UInt8) : Lib.trimS p dgS = [] ↔ p.all dgB = true := by
  have e : (dgS.contains ·) = dgB := funext dg_mem
  unfold Lib.trimS Lib.trimLeftS Lib.trimRightS
  rw [e]
  constructor
  · intro h
    rw [dropWhile_nil, List.all_eq_true] at h
    have h2 : p.reverse.dropWhile dgB = [] := dropWhile_all fun x hx => h x (by simpa using hx)
    rw [dropWhile_nil] at h2
    simpa using h2
  · intro h
    have h2 : p.reverse.dropWhile dgB = [] := dropWhile_nil.2 (by simpa using h)
    rw [h2]; rfl
theorem numB_of {p : List UInt8} (h0 : p ≠ []) (h1 : p.length ≤ 18) : numB p = p.all dgB := by
  unfold numB
  have : p.isEmpty = false := by cases p <;> simp_all
  rw [this, decide_eq_true h1]; simp
end Go.Ai
namespace Go.Ai
theorem decFrom_dg : ∀ (l : List UInt8) (n : Nat), l.all dgB = true → Lib.decFrom n l = some (dgV n l)
  | [], n, _ => rfl
  | c :: r, n, h => by
    simp only [List.all_cons, Bool.and_eq_true, dgB, decide_eq_true_eq] at h
    rw [Lib.decFrom, Lib.digitVal, if_pos h.1]
    show Lib.decFrom (n * 10 + (c.toNat - 48)) r = some (dgV (10 * n + (c.toNat - 48)) r)
    rw [Nat.mul_comm]
    exact decFrom_dg r _ h.2
theorem atoi_num {p : List UInt8} (h : numB p = true) : atoiV p = (numV p : Nat) := by
  unfold numB at h
  simp only [Bool.and_eq_true, decide_eq_true_eq] at h
  obtain ⟨⟨h0, h1⟩, h2⟩ := h
  have e : Lib.atoi p = some ((numV p : Nat) : Int) := by
    cases p with
    | nil => cases h0
    | cons c r =>
      have hc : dgB c = true := by
        rw [List.all_cons, Bool.and_eq_true] at h2
        exact h2.1
      simp only [dgB, Bool.and_eq_true, decide_eq_true_eq] at hc
      have n1 : (c == 45) = false := by rw [beq_eq_false_iff_ne]; rintro rfl; revert hc; decide
      have n2 : (c == 43) = false := by rw [beq_eq_false_iff_ne]; rintro rfl; revert hc; decide
      simp only [Lib.atoi, n1, n2, Bool.false_eq_true, if_false]
      rw [Lib.decNat, if_neg (by simp), decFrom_dg _ _ h2]
      rfl
  unfold atoiV
  rw [Lib.atoiAll_short p h1, e]
  rfl
end Go.Ai
end

section
namespace Go.Proofs.YtnncfdlpogjlkaaDoor
open Go.Ai Go
set_option maxRecDepth 100000
def plainS : List TypeId := [3, 4, 5, 9, 22, 38, 50, 54]
theorem plainS_ok : closedT Tryd.prog plainS plainS = true := by kernel_rfl
theorem wt_str {n : Nat} {xs : List AV} (h : wt Tryd.prog n 9 xs) : ∃ s : List UInt8, s.length ≤ maxLen ∧ xs = [.str s] := by
  cases n with
  | zero => exact h.elim
  | succ n => simpa only [wt, Tryd.underlying9] using h
theorem wt_int {n : Nat} {xs : List AV} (h : wt Tryd.prog n 3 xs) : ∃ z : Int, (Lit.int .i64 z).wf = true ∧ xs = [.int .i64 z] := by
  cases n with
  | zero => exact h.elim
  | succ n => simpa only [wt, Tryd.underlying3] using h
theorem wt_field {n : Nat} {xs : List AV} (h : wt Tryd.prog n 38 xs) : ∃ f : Fld, f.name.length ≤ maxLen ∧ f.value.length ≤ maxLen ∧ xs = encF f := by
  cases n with
  | zero => exact h.elim
  | succ n =>
    simp only [wt, Tryd.underlying38] at h
    obtain ⟨yss, h, rfl⟩ := h
    match yss, h with
    | [y0, y1], ⟨h0, h1, _⟩ =>
      obtain ⟨s0, q0, rfl⟩ := wt_str h0
      obtain ⟨s1, q1, rfl⟩ := wt_str h1
      exact ⟨⟨s0, s1⟩, q0, q1, rfl⟩
theorem arg_string {n : Nat} {v : AV} (h : argOf Tryd.prog n 9 v) : ∃ s : List UInt8, s.length ≤ maxLen ∧ v = .str s := by
  obtain ⟨s, h1, h2⟩ := wt_str (show wt Tryd.prog n 9 [v] from h)
  injection h2 with h2 _
  exact ⟨s, h1, h2⟩
theorem arg_int {n : Nat} {v : AV} (h : argOf Tryd.prog n 3 v) : ∃ z : Int, -9223372036854775808 ≤ z ∧ z ≤ 9223372036854775807 ∧ v = .int .i64 z := by
  obtain ⟨z, h1, h2⟩ := wt_int (show wt Tryd.prog n 3 [v] from h)
  injection h2 with h2 _
  have hw : -9223372036854775808 ≤ z ∧ z ≤ 9223372036854775807 := by simpa [Lit.wf, IntKind.min, IntKind.max, IntKind.signed, IntKind.bits] using h1
  exact ⟨z, hw.1, hw.2, h2⟩
theorem arg_bool {n : Nat} {v : AV} (h : argOf Tryd.prog n 4 v) : ∃ b : Bool, v = .bool b := by
  have h := (show wt Tryd.prog n 4 [v] from h)
  cases n with
  | zero => exact h.elim
  | succ n =>
    simp only [wt, Tryd.underlying4] at h
    obtain ⟨b, h⟩ := h
    injection h with h _
    exact ⟨b, h⟩
theorem arg_u8 {n : Nat} {v : AV} (h : argOf Tryd.prog n 5 v) : ∃ k : Nat, k < 256 ∧ v = .int .u8 k := by
  have h := (show wt Tryd.prog n 5 [v] from h)
  cases n with
  | zero => exact h.elim
  | succ n =>
    simp only [wt, Tryd.underlying5] at h
    obtain ⟨z, h1, h⟩ := h
    injection h with h _
    have hw : 0 ≤ z ∧ z ≤ 255 := by simpa [Lit.wf, IntKind.min, IntKind.max, IntKind.signed, IntKind.bits] using h1
    obtain ⟨k, rfl⟩ := Int.eq_ofNat_of_zero_le (show 0 ≤ z by omega)
    exact ⟨k, by omega, h⟩
theorem arg_u16 {n : Nat} {v : AV} (h : argOf Tryd.prog n 54 v) : ∃ k : Nat, k < 65536 ∧ v = .int .u16 k := by
  have h := (show wt Tryd.prog n 54 [v] from h)
  cases n with
  | zero => exact h.elim
  | succ n =>
    simp only [wt, Tryd.underlying54] at h
    obtain ⟨z, h1, h⟩ := h
    injection h with h _
    have hw : 0 ≤ z ∧ z ≤ 65535 := by simpa [Lit.wf, IntKind.min, IntKind.max, IntKind.signed, IntKind.bits] using h1
    obtain ⟨k, rfl⟩ := Int.eq_ofNat_of_zero_le (show 0 ≤ z by omega)
    exact ⟨k, by omega, h⟩
theorem arg_field {n : Nat} {v : AV} (h : argOf Tryd.prog n 38 v) : ∃ f : Fld, f.name.length ≤ maxLen ∧ f.value.length ≤ maxLen ∧ v = .agg [.str f.name, .str f.value] := by
  obtain ⟨xs, rfl, h⟩ := h
  obtain ⟨f, h1, h2, rfl⟩ := wt_field h
  exact ⟨f, h1, h2, rfl⟩
theorem arg_fields {n : Nat} {v : AV} (h : argOf Tryd.prog n 22 v) : ∃ l : List Fld, l.length ≤ maxLen ∧ (∀ f ∈ l, f.name.length ≤ maxLen ∧ f.value.length ≤ maxLen) ∧ v = .sl 2 (encFs l) none := by
  have h := (show wt Tryd.prog n 22 [v] from h)
  cases n with
  | zero => exact h.elim
  | succ n =>
    simp only [wt, Tryd.underlying22] at h
    obtain ⟨es, hl, h2, hm⟩ := h
    injection h2 with h2 _
    have key : ∀ es : List (List AV), (∀ x ∈ es, wt Tryd.prog n 38 x) → ∃ l : List Fld, es.length = l.length ∧ (∀ f ∈ l, f.name.length ≤ maxLen ∧ f.value.length ≤ maxLen) ∧ es = encFs l := by
      intro es
      induction es with
      | nil => exact fun _ => ⟨[], rfl, by simp, rfl⟩
      | cons e es ih =>
        intro hm
        obtain ⟨a, h1, h2, rfl⟩ := wt_field (hm e (by simp))
        obtain ⟨l, h3, h4, rfl⟩ := ih fun x hx => hm x (by simp [hx])
        exact ⟨a :: l, by simp [encFs], by simpa using ⟨⟨h1, h2⟩, h4⟩, rfl⟩
    obtain ⟨l, h3, h4, rfl⟩ := key es hm
    exact ⟨l, by rw [← h3]; exact hl, h4, h2⟩
theorem arg_ints {n : Nat} {v : AV} (h : argOf Tryd.prog n 50 v) : ∃ l : List Int, l.length ≤ maxLen ∧ (∀ z ∈ l, -9223372036854775808 ≤ z ∧ z ≤ 9223372036854775807) ∧ v = .sl 1 (l.map fun z => [.int .i64 z]) none := by
  have h := (show wt Tryd.prog n 50 [v] from h)
  cases n with
  | zero => exact h.elim
  | succ n =>
    simp only [wt, Tryd.underlying50] at h
    obtain ⟨es, hl, h2, hm⟩ := h
    injection h2 with h2 _
    have key : ∀ es : List (List AV), (∀ x ∈ es, wt Tryd.prog n 3 x) → ∃ l : List Int, es.length = l.length ∧ (∀ z ∈ l, -9223372036854775808 ≤ z ∧ z ≤ 9223372036854775807) ∧ es = l.map fun z => [.int .i64 z] := by
      intro es
      induction es with
      | nil => exact fun _ => ⟨[], rfl, by simp, rfl⟩
      | cons e es ih =>
        intro hm
        obtain ⟨z, h1, rfl⟩ := wt_int (hm e (by simp))
        obtain ⟨l, h3, h4, rfl⟩ := ih fun x hx => hm x (by simp [hx])
        have hw : -9223372036854775808 ≤ z ∧ z ≤ 9223372036854775807 := by simpa [Lit.wf, IntKind.min, IntKind.max, IntKind.signed, IntKind.bits] using h1
        exact ⟨z :: l, by simp, by simp only [List.mem_cons, forall_eq_or_imp]; exact ⟨hw, h4⟩, rfl⟩
    obtain ⟨l, h3, h4, rfl⟩ := key es hm
    exact ⟨l, by rw [← h3]; exact hl, h4, h2⟩
end Go.Proofs.YtnncfdlpogjlkaaDoor
end
