/-
  Lists of texts in plain terms: small letters, pieces between marks, numbers, where a body ends. No statement about the program is made here.
  Contracts of the functions of lists of texts, and of where a body ends. No statement about the program is made here.
  Lists of cells: places, what is written, what is low. No statement about the program is made here.
  Bodies in chunks, and lists of fields as bytes, in plain terms. No statement about the program is made here.
  Bodies in chunks: what is put is read again; a beginning of it lacks bytes; what stands behind makes no difference. No statement about the program is made here.
  Contracts of the functions of bodies in chunks, and of fields as bytes. No statement about the program is made here.
  Whole requests and replies, in plain terms. No statement about the program is made here.
  Whole messages, in plain terms: what is put is read again; beginnings; what is read may be put. No statement about the program is made here.
  Messages read: memory on the way, contracts. No statement about the program is made here.
  Whole messages: contracts of the statements' own functions. No statement about the program is made here.
-/
import Derived.Test.YtnncfdlpogjlkaaGreatDoorLAiLaw
import Derived.Lib.SlTrimSet
import Derived.Test.YtnncfdlpogjlkaaGreatDoorLAiPrims4
import Derived.Lib.AtoiTie
import Derived.Test.YtnncfdlpogjlkaaGreatDoorLJZo
set_option linter.unusedVariables false
set_option linter.unusedSimpArgs false
set_option linter.unnecessarySimpa false
section
namespace Go.Ai
open Go.RowKit
def lowC (c : UInt8) : UInt8 := if 65 ≤ c.toNat ∧ c.toNat ≤ 90 then c + 32 else c
def lowS (s : List UInt8) : List UInt8 := s.map lowC
theorem lowS_len (s : List UInt8) : (lowS s).length = s.length := by simp [lowS]
def isBl (c : UInt8) : Bool := c == 32 || c == 9
def trB (s : List UInt8) : List UInt8 := Lib.trimS s [32, 9]
theorem contains_bl (c : UInt8) : [32, 9].contains c = isBl c := by
  simp only [List.contains, List.elem, isBl]
  cases c == 32 <;> cases c == 9 <;> rfl
theorem trB_cut {s : List UInt8} {a b : Nat} (hab : a ≤ b) (hb : b ≤ s.length) (h1 : ∀ (j : Nat) x, j < a → s[j]? = some x → isBl x = true) (h2 : ∀ (j : Nat) x, b ≤ j → s[j]? = some x → isBl x = true)
    (h3 : a = b ∨ ((∀ x, s[a]? = some x → isBl x = false) ∧ ∀ x, s[b - 1]? = some x → isBl x = false)) : trB s = (s.take b).drop a := by
  unfold trB Lib.trimS
  rcases Nat.eq_or_lt_of_le hab with rfl | hlt
  · rw [Lib.trimRightS_take s [32, 9] 0 (by omega) (fun j x _ hx => by rw [contains_bl]; rcases Nat.lt_or_ge j a with h | h; exact h1 j x h hx; exact h2 j x h hx) (fun x h => by omega)]
    simp [Lib.trimLeftS]
  · rcases h3 with h3 | ⟨h3, h4⟩
    · omega
    rw [Lib.trimRightS_take s [32, 9] b hb (fun j x hj hx => by rw [contains_bl]; exact h2 j x hj hx) (fun x _ hx => by rw [contains_bl]; exact h4 x hx)]
    refine Lib.trimLeftS_drop _ _ a (by simp; omega) (fun j x hj hx => ?_) (fun x hx => ?_)
    · rw [contains_bl]
      rw [List.getElem?_take, if_pos (by omega)] at hx
      exact h1 j x hj hx
    · rw [contains_bl]
      rw [List.getElem?_take, if_pos (by omega)] at hx
      exact h3 x hx
theorem dropWhile_len {p : UInt8 → Bool} : ∀ (l : List UInt8), (l.dropWhile p).length ≤ l.length
  | [] => by simp
  | c :: r => by
    rw [List.dropWhile_cons]; split
    · have := dropWhile_len (p := p) r; simp; omega
    · simp
theorem trB_len (s : List UInt8) : (trB s).length ≤ s.length := by
  unfold trB Lib.trimS Lib.trimLeftS Lib.trimRightS; refine Nat.le_trans (dropWhile_len _) ?_; rw [List.length_reverse]; refine Nat.le_trans (dropWhile_len _) ?_; simp
def keepP (p : List UInt8) : List (List UInt8) := match trB p with
  | [] => []
  | c :: q => [c :: q]
theorem keepP_eq (p : List UInt8) : keepP p = if trB p = [] then [] else [trB p] := by
  unfold keepP
  cases trB p <;> simp
def splG (sep : UInt8) : List UInt8 → Bool → Bool → List UInt8 → List (List UInt8)
  | cur, _, _, [] => keepP cur
  | cur, op, be, c :: r =>
    if be = true then splG sep (cur ++ [c]) op false r
    else if op = true ∧ c = 92 then splG sep (cur ++ [c]) op true r
    else if c = 34 then splG sep (cur ++ [c]) (!op) false r
    else if c = sep ∧ op = false then keepP cur ++ splG sep [] op false r
    else splG sep (cur ++ [c]) op false r
def opnG : Bool → Bool → List UInt8 → Bool
  | op, _, [] => op
  | op, be, c :: r =>
    if be = true then opnG op false r
    else if op = true ∧ c = 92 then opnG op true r
    else if c = 34 then opnG (!op) false r
    else opnG op false r
def splitS (sep : UInt8) (s : List UInt8) : List (List UInt8) × Int :=
  if opnG false false s = true then ([], 4) else if 64 < (splG sep [] false false s).length then ([], 3) else (splG sep [] false false s, 0)
def quoG : Bool → Bool → List UInt8 → List Bool
  | _, _, [] => []
  | op, be, c :: r =>
    if be = true then true :: quoG op false r
    else if op = true ∧ c = 92 then true :: quoG op true r
    else if c = 34 then true :: quoG (!op) false r
    else op :: quoG op false r
theorem quoG_len : ∀ (s : List UInt8) (op be : Bool), (quoG op be s).length = s.length
  | [], _, _ => rfl
  | c :: r, op, be => by
    rw [quoG]
    repeat' split
    all_goals simp [quoG_len r]
def refG (sep : UInt8) : List UInt8 → List UInt8 → List Bool → List (List UInt8)
  | cur, [], _ => keepP cur
  | cur, c :: r, [] => keepP cur
  | cur, c :: r, f :: fs => if c ≠ sep ∨ f = true then refG sep (cur ++ [c]) r fs else keepP cur ++ refG sep [] r fs
theorem refG_eq {sep : UInt8} (h1 : sep ≠ 34) (h2 : sep ≠ 92) : ∀ (s cur : List UInt8) (op be : Bool), (be = true → op = true) → refG sep cur s (quoG op be s) = splG sep cur op be s
  | [], cur, op, be, _ => rfl
  | c :: r, cur, op, be, hb => by
    rw [quoG, splG]
    by_cases e1 : be = true
    · rw [if_pos e1, if_pos e1, refG, if_pos (.inr rfl)]
      exact refG_eq h1 h2 r _ _ _ (by simp)
    rw [if_neg e1, if_neg e1]
    by_cases e2 : op = true ∧ c = 92
    · rw [if_pos e2, if_pos e2, refG, if_pos (.inr rfl)]
      exact refG_eq h1 h2 r _ _ _ (fun _ => e2.1)
    rw [if_neg e2, if_neg e2]
    by_cases e3 : c = 34
    · rw [if_pos e3, if_pos e3, refG, if_pos (.inr rfl)]
      exact refG_eq h1 h2 r _ _ _ (by simp)
    rw [if_neg e3, if_neg e3, refG]
    by_cases e4 : c = sep ∧ op = false
    · rw [if_pos e4, if_neg (by rintro (h | h); exact h e4.1; rw [e4.2] at h; cases h)]
      rw [refG_eq h1 h2 r _ _ _ (by simp)]
    · rw [if_neg e4, if_pos (by
        by_cases h : c = sep
        · right; cases op
          · exact absurd ⟨h, rfl⟩ e4
          · rfl
        · exact .inl h)]
      exact refG_eq h1 h2 r _ _ _ (by simp)
theorem keepP_mem {p q : List UInt8} (h : q ∈ keepP p) : q ≠ [] ∧ q.length ≤ p.length := by
  rw [keepP_eq] at h; split at h
  · cases h
  · simp only [List.mem_singleton] at h; subst h
    exact ⟨by assumption, trB_len p⟩
theorem splG_mem {sep : UInt8} : ∀ (s cur : List UInt8) (op be : Bool) (q : List UInt8), q ∈ splG sep cur op be s → q ≠ [] ∧ q.length ≤ cur.length + s.length
  | [], cur, op, be, q, h => by
    have := keepP_mem h
    exact ⟨this.1, by simpa using this.2⟩
  | c :: r, cur, op, be, q, h => by
    have key : ∀ op be, q ∈ splG sep (cur ++ [c]) op be r → q ≠ [] ∧ q.length ≤ cur.length + (c :: r).length := fun op be h => by
      have := splG_mem r _ _ _ q h; refine ⟨this.1, ?_⟩; have h2 := this.2; simp at h2 ⊢; omega
    rw [splG] at h
    repeat' split at h
    all_goals first
      | exact key _ _ h
      | rcases List.mem_append.1 h with h | h
        · have := keepP_mem h
          exact ⟨this.1, by have := this.2; simp; omega⟩
        · have := splG_mem r _ _ _ q h
          exact ⟨this.1, by have := this.2; simp at this ⊢; omega⟩
theorem splitS_mem {sep : UInt8} {s q : List UInt8} (h : q ∈ (splitS sep s).1) : q ≠ [] ∧ q.length ≤ s.length := by
  unfold splitS at h; split at h
  · cases h
  · split at h
    · cases h
    · have := splG_mem s [] _ _ q h
      exact ⟨this.1, by simpa using this.2⟩
theorem splitS_len (sep : UInt8) (s : List UInt8) : (splitS sep s).1.length ≤ 64 := by
  unfold splitS; split
  · simp
  · split
    · simp
    · simp only; omega
structure Fld where
  name : List UInt8
  value : List UInt8
def encF (f : Fld) : List AV := [.str f.name, .str f.value]
def encFs (l : List Fld) : List (List AV) := l.map encF
def encS (l : List (List UInt8)) : List (List AV) := l.map fun s => [.str s]
def valuesOf (l : List Fld) (nm : List UInt8) : List (List UInt8) := (l.filter fun f => lowS f.name == lowS nm).map (·.value)
def pcs : List (List UInt8) → Option (List (List UInt8))
  | [] => some []
  | v :: r => if (splitS 44 v).2 = 0 then (pcs r).map ((splitS 44 v).1 ++ ·) else none
def dgB (c : UInt8) : Bool := decide (48 ≤ c.toNat) && decide (c.toNat ≤ 57)
def dgV : Nat → List UInt8 → Nat
  | n, [] => n
  | n, c :: r => dgV (10 * n + (c.toNat - 48)) r
def numB (s : List UInt8) : Bool := !s.isEmpty && decide (s.length ≤ 18) && s.all dgB
def numV (s : List UInt8) : Nat := dgV 0 s
def lenV (ps : List (List UInt8)) : Int × Int :=
  if ps.all numB = true then (if ps.all (fun p => numV p == numV (ps.headD [])) = true then ((numV (ps.headD []) : Nat), 0) else (0, 8)) else (0, 4)
def clS : List UInt8 := [99, 111, 110, 116, 101, 110, 116, 45, 108, 101, 110, 103, 116, 104]
def teS : List UInt8 := [116, 114, 97, 110, 115, 102, 101, 114, 45, 101, 110, 99, 111, 100, 105, 110, 103]
def chS : List UInt8 := [99, 104, 117, 110, 107, 101, 100]
def byLen (a : List (List UInt8)) : Int × Int × Int :=
  match pcs a with
  | some (p :: ps) => if (lenV (p :: ps)).2 = 0 then (1, (lenV (p :: ps)).1, 0) else (0, 0, (lenV (p :: ps)).2)
  | _ => (0, 0, 4)
def byCod (b : List (List UInt8)) : Int × Int × Int :=
  match pcs b with
  | some [p] => if lowS p = chS then (2, 0, 0) else (0, 0, 4)
  | _ => (0, 0, 4)
def ofV (a b : List (List UInt8)) (other : Int) : Int × Int × Int :=
  if a ≠ [] ∧ b ≠ [] then (0, 0, 8) else if a ≠ [] then byLen a else if b ≠ [] then byCod b else (other, 0, 0)
def frm (l : List Fld) (other : Int) : Int × Int × Int := ofV (valuesOf l clS) (valuesOf l teS) other
def asksF (l : List Fld) : Int × Int × Int := if 65536 < (frm l 0).2.1 then (0, 0, 3) else frm l 0
def bareB (st : Int) : Bool := (decide (100 ≤ st) && decide (st ≤ 199)) || decide (st = 204) || decide (st = 304)
def tellsF (l : List Fld) (st : Int) (head : Bool) : Int × Int × Int :=
  if (frm l 3).2.2 ≠ 0 then (0, 0, (frm l 3).2.2) else if head = true ∨ bareB st = true then (0, 0, 0) else if 262144 < (frm l 3).2.1 then (0, 0, 3) else ((frm l 3).1, (frm l 3).2.1, 0)
end Go.Ai
end
section
namespace Go.Ai
open Go.RowKit
def lim : Nat := 10000000
def lowerC : Con := fun vs h K => ∃ s : List UInt8, s.length ≤ lim ∧ vs = [.str s] ∧ K (.str (lowS s)) h
def likeC : Con := fun vs h K => ∃ a b : List UInt8, a.length ≤ lim ∧ b.length ≤ lim ∧ vs = [.str a, .str b] ∧ K (.bool (lowS a == lowS b)) h
def trimC : Con := fun vs h K => ∃ s : List UInt8, s.length ≤ lim ∧ vs = [.str s] ∧ K (.str (trB s)) h
def trimSC : Con := fun vs h K => ∃ s cs : List UInt8, s.length ≤ lim ∧ cs.length ≤ 100 ∧ cs.all (fun b => Nat.blt b.toNat 128) = true ∧ vs = [.str s, .str cs] ∧ K (.str (Lib.trimS s cs)) h
def splitC : Con := fun vs h K => ∃ (s : List UInt8) (sep : UInt8), s.length ≤ lim ∧ sep ≠ 34 ∧ sep ≠ 92 ∧ vs = [.str s, .int .u8 sep.toNat] ∧ K (.tup [.sl 1 (encS (splitS sep s).1) none, .int .i64 (splitS sep s).2]) h
def okFs (l : List Fld) : Prop := l.length ≤ lim ∧ ∀ f ∈ l, f.name.length ≤ lim ∧ f.value.length ≤ lim
def okSs (l : List (List UInt8)) : Prop := l.length ≤ lim ∧ ∀ s ∈ l, s.length ≤ lim
def szOk (sz n len : Nat) : Prop := sz = n ∨ len = 0
def valuesC : Con := fun vs h K => ∃ (l : List Fld) (nm : List UInt8) (sz : Nat), okFs l ∧ szOk sz 2 l.length ∧ nm.length ≤ lim ∧ vs = [.sl sz (encFs l) none, .str nm] ∧ K (.sl 1 (encS (valuesOf l nm)) none) h
end Go.Ai
namespace Go.Ai
def quotC : Con := fun vs h K => ∃ s : List UInt8, s.length ≤ lim ∧ vs = [.str s] ∧ K (.tup [.sl 1 ((quoG false false s).map fun b => [AV.bool b]) none, .bool (!opnG false false s)]) h
end Go.Ai
namespace Go.Ai
def takeC : Con := fun vs h K => match h with
  | [.mem t0 [.str s], .grow g s1 e1, .grow n s2 e2, .mem t3 [.sl s3 es (some i3)], .mem t4 [.int k4 f]] =>
    ∃ (acc : List (List UInt8)) (a b : Nat), (s1 = 1 ∧ e1 = 9 ∧ s2 = 1 ∧ e2 = 9 ∧ s3 = 1 ∧ i3 = 2 ∧ k4 = .i64 ∧ t0 = 9 ∧ t3 = 51 ∧ t4 = 3) ∧ es = encS acc ∧ n = acc.length ∧ f = a ∧ a ≤ b ∧ b ≤ s.length ∧ s.length ≤ lim ∧ acc.length ≤ b ∧ vs = [.int .i64 b, .ptr 0 0, .ptr 4 0, .ptr 3 0] ∧
      K (.tup []) [.mem 9 [.str s], .grow g 1 9, .grow (acc ++ keepP ((s.take b).drop a)).length 1 9, .mem 51 [.sl 1 (encS (acc ++ keepP ((s.take b).drop a))) (some 2)], .mem 3 [.int .i64 ((b + 1 : Nat) : Int)]]
  | _ => False
end Go.Ai
namespace Go.Ai
def pcsE (l : List (List UInt8)) : List (List UInt8) × Int := match pcs l with
  | some (p :: ps) => (p :: ps, 0)
  | _ => ([], 4)
def pcsR (l : List (List UInt8)) : List (List UInt8) × Bool := match pcs l with
  | some ps => (ps, !ps.isEmpty)
  | none => ([], false)
def lenA (l : List (List UInt8)) : Int × Int := match pcs l with
  | some (p :: ps) => lenV (p :: ps)
  | _ => (0, 4)
def piecesC : Con := fun vs h K => ∃ (l : List (List UInt8)) (sz : Nat), okSs l ∧ szOk sz 1 l.length ∧ vs = [.sl sz (encS l) none] ∧ K (.tup [.sl 1 (encS (pcsE l).1) none, .int .i64 (pcsE l).2]) h
def piecesRC : Con := fun vs h K => ∃ (l : List Fld) (nm : List UInt8) (sz : Nat), okFs l ∧ szOk sz 2 l.length ∧ nm.length ≤ lim ∧ vs = [.sl sz (encFs l) none, .str nm] ∧ K (.tup [.sl 1 (encS (pcsR (valuesOf l nm)).1) none, .bool (pcsR (valuesOf l nm)).2]) h
def lengthC : Con := fun vs h K => ∃ (l : List (List UInt8)) (sz : Nat), okSs l ∧ szOk sz 1 l.length ∧ vs = [.sl sz (encS l) none] ∧ K (.tup [.int .i64 (lenA l).1, .int .i64 (lenA l).2]) h
def ofC : Con := fun vs h K => ∃ (l : List Fld) (sz : Nat) (o : Int), okFs l ∧ szOk sz 2 l.length ∧ vs = [.sl sz (encFs l) none, .int .i64 o] ∧ K (.tup [.agg [.int .i64 (frm l o).1, .int .i64 (frm l o).2.1], .int .i64 (frm l o).2.2]) h
def ofRC : Con := fun vs h K => ∃ (l : List Fld) (sz : Nat), okFs l ∧ szOk sz 2 l.length ∧ vs = [.sl sz (encFs l) none] ∧ K (.tup [.agg [.int .i64 (frm l 0).1, .int .i64 (frm l 0).2.1], .bool (!((valuesOf l clS).isEmpty && (valuesOf l teS).isEmpty)), .int .i64 (frm l 0).2.2]) h
def askFC : Con := fun vs h K => ∃ (l : List Fld) (sz : Nat), okFs l ∧ szOk sz 2 l.length ∧ vs = [.sl sz (encFs l) none] ∧ K (.tup [.agg [.int .i64 (asksF l).1, .int .i64 (asksF l).2.1], .int .i64 (asksF l).2.2]) h
def tellFC : Con := fun vs h K => ∃ (l : List Fld) (sz : Nat) (st : Int) (hd : Bool), okFs l ∧ szOk sz 2 l.length ∧ -9223372036854775808 ≤ st ∧ st ≤ 9223372036854775807 ∧ vs = [.sl sz (encFs l) none, .int .i64 st, .bool hd] ∧ K (.tup [.agg [.int .i64 (tellsF l st hd).1, .int .i64 (tellsF l st hd).2.1], .int .i64 (tellsF l st hd).2.2]) h
def atoiC : Con := fun vs h K => ∃ s : List UInt8, s.length ≤ lim ∧ vs = [.str s] ∧ K (.tup [.int .i64 (atoiV s), .top]) h
def numC : Con := fun vs h K => ∃ s : List UInt8, s.length ≤ lim ∧ vs = [.str s] ∧ K (.tup [.int .i64 (if numB s = true then (numV s : Nat) else 0), .bool (numB s)]) h
end Go.Ai
namespace Go.Ai
def trueC : Con := fun vs h K => vs.isEmpty = true ∧ K (.bool true) h
def sameFs : List Fld → List Fld → Bool
  | [], [] => true
  | a :: r, b :: s => a.name == b.name && (a.value == b.value && true) && sameFs r s
  | _, _ => false
def sameFsC : Con := fun vs h K => ∃ (a b : List Fld) (sz sy : Nat), a.length ≤ lim ∧ szOk sz 2 a.length ∧ szOk sy 2 b.length ∧ vs = [.sl sz (encFs a) none, .sl sy (encFs b) none] ∧ K (.bool (sameFs a b)) h
end Go.Ai
end
section
namespace Go.Ai
open Go.RowKit
def bc (s : List UInt8) : List AV := s.map fun (b : UInt8) => AV.int IntKind.u8 ((UInt8.toNat b : Nat) : Int)
def rb (s : List UInt8) : List (List AV) := s.map fun (b : UInt8) => [AV.int IntKind.u8 ((UInt8.toNat b : Nat) : Int)]
theorem bc_len (s : List UInt8) : (bc s).length = s.length := by simp [bc]
theorem rb_len (s : List UInt8) : (rb s).length = s.length := by simp [rb]
theorem bc_app (a b : List UInt8) : bc (a ++ b) = bc a ++ bc b := by simp [bc]
theorem rb_app (a b : List UInt8) : rb (a ++ b) = rb a ++ rb b := by simp [rb]
theorem cellB_b (b : UInt8) : cellB (.int .u8 ((UInt8.toNat b : Nat) : Int)) = true := by
  have := b.toNat_lt; simp [cellB]; omega
theorem cellV_b (b : UInt8) : cellV (.int .u8 ((UInt8.toNat b : Nat) : Int)) = b := by simp [cellV]
theorem cellsB_bc (s : List UInt8) : cellsB (bc s) = true := by
  unfold cellsB bc; rw [List.all_eq_true]; intro x hx; obtain ⟨b, _, rfl⟩ := List.mem_map.1 hx; exact cellB_b b
theorem cellV_bc (s : List UInt8) : (bc s).map cellV = s := by
  unfold bc; rw [List.map_map]
  conv => rhs; rw [← List.map_id s]
  exact List.map_congr_left fun b _ => cellV_b b
theorem rowsB_rb (s : List UInt8) : rowsB (rb s) = true := by
  unfold rowsB rb; rw [List.all_eq_true]; intro x hx; obtain ⟨b, _, rfl⟩ := List.mem_map.1 hx; exact cellB_b b
theorem rowV_rb (s : List UInt8) : (rb s).map rowV = s := by
  unfold rb; rw [List.map_map]
  conv => rhs; rw [← List.map_id s]
  exact List.map_congr_left fun b _ => cellV_b b
theorem lowss_pure (n : Nat) : ∀ es : List (List AV), (∀ x ∈ es, lowVs n x = true) → lowVss n es = true
  | [], _ => rfl
  | x :: r, h => by rw [lowVss, h x (by simp), lowss_pure n r fun y hy => h y (by simp [hy])]; rfl
theorem low_rb (n : Nat) (s : List UInt8) : lowVss n (rb s) = true := lowss_pure n _ fun x hx => by
  obtain ⟨b, _, rfl⟩ := List.mem_map.1 hx; rfl
theorem low_encFs (n : Nat) (l : List Fld) : lowVss n (encFs l) = true := lowss_pure n _ fun x hx => by
  obtain ⟨b, _, rfl⟩ := List.mem_map.1 hx; rfl
theorem low_encS (n : Nat) (l : List (List UInt8)) : lowVss n (encS l) = true := lowss_pure n _ fun x hx => by
  obtain ⟨b, _, rfl⟩ := List.mem_map.1 hx; rfl
theorem stripss_encFs (n : Nat) (h : Hp) (l : List Fld) : stripss n h (encFs l) = encFs l := stripss_low n h _ (low_encFs n l)
theorem stripss_encS (n : Nat) (h : Hp) (l : List (List UInt8)) : stripss n h (encS l) = encS l := stripss_low n h _ (low_encS n l)
theorem stripss_rb (n : Nat) (h : Hp) (l : List UInt8) : stripss n h (rb l) = rb l := stripss_low n h _ (low_rb n l)
theorem encFs_len (l : List Fld) : (encFs l).length = l.length := by simp [encFs]
theorem encS_len (l : List (List UInt8)) : (encS l).length = l.length := by simp [encS]
theorem encS_app (a b : List (List UInt8)) : encS (a ++ b) = encS a ++ encS b := by simp [encS]
theorem getE_fs (pre r : List Fld) (x : Fld) : getE (encFs (pre ++ x :: r)) (pre.length : Nat) = [.str x.name, .str x.value] := by
  unfold getE encFs; simp [encF]
theorem getE_ss (pre r : List (List UInt8)) (x : List UInt8) : getE (encS (pre ++ x :: r)) (pre.length : Nat) = [.str x] := by
  unfold getE encS; simp
theorem at_pre (pre : List UInt8) (c : UInt8) (r : List UInt8) : List.getD (pre ++ c :: r) (Int.toNat (pre.length : Int)) 0 = c := by simp
theorem take_at {a r : List AV} {x : AV} {n : Nat} (h : n = a.length) : List.take 1 (List.drop n (a ++ x :: r)) = [x] := by subst h; simp
theorem splice_at {a r : List AV} {x v : AV} {n : Nat} (h : n = a.length) : splice (a ++ x :: r) n [v] = a ++ v :: r := by
  subst h; simp [splice]
theorem wrap_n {n : Nat} (h : n ≤ lim) : IntKind.wrap .i64 ((n : Int) + 1) = ((n + 1 : Nat) : Int) := by
  unfold lim at h; rw [wrap_in] <;> omega
theorem wrap_u8 {a : Int} (h0 : 0 ≤ a) (h1 : a < 256) : IntKind.wrap .u8 a = a := by
  rw [IntKind.wrap_u8]; omega
theorem bool_av {a b : Bool} (h : a = true ↔ b = true) : AV.bool a = AV.bool b := by
  have : a = b := Bool.eq_iff_iff.2 h; rw [this]
theorem inR_nat {n m : Nat} (h : n < m) : inR (n : Int) m = true := inR_of (by omega) (by omega)
theorem szOk.beq {sz n len : Nat} (h : szOk sz n len) (hl : 0 < len) (h1 : 1 ≤ n) : (Nat.beq sz n && Nat.ble 1 sz) = true := by
  rcases h with rfl | h
  · simp [Nat.beq_refl, Nat.ble_eq, h1]
  · omega
theorem lowC_toNat (c : UInt8) : (lowC c).toNat = if 65 ≤ c.toNat ∧ c.toNat ≤ 90 then c.toNat + 32 else c.toNat := by
  unfold lowC; split
  · rename_i h; rw [UInt8.toNat_add]; have : (32 : UInt8).toNat = 32 := rfl; omega
  · rfl
theorem tag_ok {h : Hp} {n sz e id : Nat} (hh : h[id]? = some (.grow n sz e)) : tagOk h n sz e (some id) = true := by
  simp [tagOk, hh, Nat.beq_refl]
end Go.Ai
namespace Go.Ai
theorem ueq {x : UInt8} {n : Int} (y : UInt8) (hy : (y.toNat : Int) = n) (h : ((x.toNat : Int) == n) = true) : x = y := by
  have : (x.toNat : Int) = n := by simpa using h
  exact UInt8.toNat_inj.1 (by omega)
theorem une {x : UInt8} {n : Int} (y : UInt8) (hy : (y.toNat : Int) = n) (h : ((x.toNat : Int) == n) = false) : x ≠ y := by
  rintro rfl
  rw [hy] at h; simp at h
theorem unq {x : UInt8} {n : Int} (y : UInt8) (hy : (y.toNat : Int) = n) (h : ((x.toNat : Int) != n) = true) : x ≠ y := une y hy (by simpa [bne] using h)
theorem unq' {x : UInt8} {n : Int} (y : UInt8) (hy : (y.toNat : Int) = n) (h : ((x.toNat : Int) != n) = false) : x = y := ueq y hy (by simpa [bne] using h)
def splitEnd (o : Bool) (l : List (List UInt8)) : List (List UInt8) × Int := if o = true then ([], 4) else if 64 < l.length then ([], 3) else (l, 0)
def ansV (p : List (List UInt8) × Int) : AV := .tup [.sl 1 (encS p.1) none, .int .i64 p.2]
theorem keepP_len (p : List UInt8) : (keepP p).length ≤ 1 := by
  rw [keepP_eq]; split <;> simp
theorem keepP_none {p : List UInt8} (h : (!trB p == []) = false) : keepP p = [] := by
  rw [keepP_eq, if_pos (by simpa using h)]
theorem keepP_some {p : List UInt8} (h : (!trB p == []) = true) : keepP p = [trB p] := by
  rw [keepP_eq, if_neg (by simpa using h)]
theorem encS_one (acc : List (List UInt8)) (p : List UInt8) : encS acc ++ [[AV.str p]] = encS (acc ++ [p]) := by simp [encS]
end Go.Ai
namespace Go.Ai
open Go.RowKit
theorem ifP_true {p q : Prop} : ifP true p q = p := rfl
theorem ifP_false {p q : Prop} : ifP false p q = q := rfl
theorem pos_cons {α : Type} (x : α) (l : List α) : decide (((x :: l).length : Int) > 0) = true := decide_eq_true (by rw [List.length_cons]; omega)
theorem pos_nil {α : Type} : decide ((([] : List α).length : Int) > 0) = false := by simp
theorem zero_cons {α : Type} (x : α) (l : List α) : (((x :: l).length : Int) == 0) = false := by
  rw [beq_eq_false_iff_ne]; simp; omega
theorem zero_nil {α : Type} : ((([] : List α).length : Int) == 0) = true := by simp
theorem okSs_values {l : List Fld} (h : okFs l) (nm : List UInt8) : okSs (valuesOf l nm) := by
  refine ⟨?_, fun s hs => ?_⟩
  · unfold valuesOf; rw [List.length_map]; exact Nat.le_trans (List.length_filter_le _ _) h.1
  · obtain ⟨f, hf, rfl⟩ := List.mem_map.1 hs; exact (h.2 f (List.mem_filter.1 hf).1).2
theorem pcs_mem : ∀ {l ps : List (List UInt8)}, (∀ s ∈ l, s.length ≤ lim) → pcs l = some ps → ∀ p ∈ ps, p ≠ [] ∧ p.length ≤ lim
  | [], ps, _, h, p, hp => by
    simp only [pcs, Option.some.injEq] at h; subst h; cases hp
  | v :: r, ps, hl, h, p, hp => by
    rw [pcs] at h; split at h
    · cases hr : pcs r with
      | none => rw [hr] at h; cases h
      | some qs =>
        rw [hr] at h; simp only [Option.map_some, Option.some.injEq] at h; subst h
        rcases List.mem_append.1 hp with hp | hp
        · obtain ⟨q1, q2⟩ := splitS_mem hp
          exact ⟨q1, Nat.le_trans q2 (hl v (by simp))⟩
        · exact pcs_mem (fun s hs => hl s (by simp [hs])) hr p hp
    · cases h
theorem pcs_len : ∀ {l ps : List (List UInt8)}, pcs l = some ps → ps.length ≤ 64 * l.length
  | [], ps, h => by
    simp only [pcs, Option.some.injEq] at h; subst h; simp
  | v :: r, ps, h => by
    rw [pcs] at h; split at h
    · cases hr : pcs r with
      | none => rw [hr] at h; cases h
      | some qs =>
        rw [hr] at h; simp only [Option.map_some, Option.some.injEq] at h; subst h; have := pcs_len hr; have := splitS_len 44 v; simp; omega
    · cases h
def finE (acc : List (List UInt8)) : Option (List (List UInt8)) → List (List UInt8) × Int
  | none => ([], 4)
  | some ps => if acc ++ ps = [] then ([], 4) else (acc ++ ps, 0)
def finR (acc : List (List UInt8)) : Option (List (List UInt8)) → List (List UInt8) × Bool
  | none => ([], false)
  | some ps => (acc ++ ps, !(acc ++ ps).isEmpty)
theorem finE_nil (l : List (List UInt8)) : finE [] (pcs l) = pcsE l := by
  unfold pcsE
  cases h : pcs l with
  | none => rfl
  | some ps => cases ps <;> rfl
theorem finR_nil (l : List (List UInt8)) : finR [] (pcs l) = pcsR l := by
  unfold pcsR
  cases h : pcs l with
  | none => rfl
  | some ps => rfl
theorem fin_step {v : List UInt8} {r acc : List (List UInt8)} (h : (splitS 44 v).2 = 0) : finE acc (pcs (v :: r)) = finE (acc ++ (splitS 44 v).1) (pcs r) ∧ finR acc (pcs (v :: r)) = finR (acc ++ (splitS 44 v).1) (pcs r) := by
  rw [pcs, if_pos h]
  cases pcs r with
  | none => exact ⟨rfl, rfl⟩
  | some ps => simp only [Option.map_some, finE, finR, List.append_assoc, and_self]
theorem fin_stop {v : List UInt8} {r acc : List (List UInt8)} (h : (splitS 44 v).2 ≠ 0) : finE acc (pcs (v :: r)) = ([], 4) ∧ finR acc (pcs (v :: r)) = ([], false) := by
  rw [pcs, if_neg h]; exact ⟨rfl, rfl⟩
theorem ne_of_bne {a : Int} (h : (a != 0) = true) : a ≠ 0 := by simpa using h
theorem eq_of_bne {a : Int} (h : (a != 0) = false) : a = 0 := by simpa using h
def dgS : List UInt8 := [48, 49, 50, 51, 52, 53, 54, 55, 56, 57]
theorem dg_mem (c : UInt8) : dgS.contains c = dgB c := by
  have key : ∀ n : Nat, n < 256 → dgS.contains (UInt8.ofNat n) = dgB (UInt8.ofNat n) := by decide +kernel
  have := key c.toNat c.toNat_lt; simpa using this
theorem dropWhile_nil {p : UInt8 → Bool} : ∀ {l : List UInt8}, l.dropWhile p = [] ↔ l.all p = true
  | [] => by simp
  | c :: r => by
    rw [List.dropWhile_cons, List.all_cons]; split
    · rename_i h; rw [h, Bool.true_and]; exact dropWhile_nil
    · rename_i h; simp [h]
theorem dropWhile_all {p : UInt8 → Bool} {l : List UInt8} (h : ∀ x ∈ l.dropWhile p, p x = true) : l.dropWhile p = [] := by
  induction l with
  | nil => rfl
  | cons c r ih =>
    rw [List.dropWhile_cons] at h ⊢; split
    · rename_i hc; rw [if_pos hc] at h; exact ih h
    · rename_i hc; rw [if_neg hc] at h; exact absurd (h c (by simp)) hc
theorem trim_dg (p : List UInt8) : Lib.trimS p dgS = [] ↔ p.all dgB = true := by
  have e : (dgS.contains ·) = dgB := funext dg_mem; unfold Lib.trimS Lib.trimLeftS Lib.trimRightS; rw [e]; constructor
  · intro h; rw [dropWhile_nil, List.all_eq_true] at h
    have h2 : p.reverse.dropWhile dgB = [] := dropWhile_all fun x hx => h x (by simpa using hx)
    rw [dropWhile_nil] at h2; simpa using h2
  · intro h
    have h2 : p.reverse.dropWhile dgB = [] := dropWhile_nil.2 (by simpa using h)
    rw [h2]; rfl
theorem numB_of {p : List UInt8} (h0 : p ≠ []) (h1 : p.length ≤ 18) : numB p = p.all dgB := by
  unfold numB
  have : p.isEmpty = false := by cases p <;> simp_all
  rw [this, decide_eq_true h1]; simp
end Go.Ai
namespace Go.Ai
theorem decFrom_dg : ∀ (l : List UInt8) (n : Nat), l.all dgB = true → Lib.decFrom n l = some (dgV n l)
  | [], n, _ => rfl
  | c :: r, n, h => by
    simp only [List.all_cons, Bool.and_eq_true, dgB, decide_eq_true_eq] at h; rw [Lib.decFrom, Lib.digitVal, if_pos h.1]; show Lib.decFrom (n * 10 + (c.toNat - 48)) r = some (dgV (10 * n + (c.toNat - 48)) r); rw [Nat.mul_comm]; exact decFrom_dg r _ h.2
theorem atoi_num {p : List UInt8} (h : numB p = true) : atoiV p = (numV p : Nat) := by
  unfold numB at h; simp only [Bool.and_eq_true, decide_eq_true_eq] at h; obtain ⟨⟨h0, h1⟩, h2⟩ := h
  have e : Lib.atoi p = some ((numV p : Nat) : Int) := by
    cases p with
    | nil => cases h0
    | cons c r =>
      have hc : dgB c = true := by
        rw [List.all_cons, Bool.and_eq_true] at h2; exact h2.1
      simp only [dgB, Bool.and_eq_true, decide_eq_true_eq] at hc
      have n1 : (c == 45) = false := by rw [beq_eq_false_iff_ne]; rintro rfl; revert hc; decide
      have n2 : (c == 43) = false := by rw [beq_eq_false_iff_ne]; rintro rfl; revert hc; decide
      simp only [Lib.atoi, n1, n2, Bool.false_eq_true, if_false]
      rw [Lib.decNat, if_neg (by simp), decFrom_dg _ _ h2]
      rfl
  unfold atoiV; rw [Lib.atoiAll_short p h1, e]; rfl
end Go.Ai
end
section
namespace Go.Ai
open Go.RowKit
def fnd (x : List UInt8) : List UInt8 → Option Nat
  | [] => if x.isEmpty = true then some 0 else none
  | c :: r => if x.isPrefixOf (c :: r) = true then some 0 else (fnd x r).map (· + 1)
theorem idxB_fnd (x : List UInt8) : ∀ (s : List UInt8) (i : Nat), idxB s x i = match fnd x s with | some n => ((i + n : Nat) : Int) | none => -1
  | [], i => by
    cases x <;> simp [idxB, fnd]
  | c :: r, i => by
    unfold idxB fnd
    cases h : x.isPrefixOf (c :: r) with
    | true => simp
    | false =>
      simp only [idxB_fnd x r (i + 1), Bool.false_eq_true, if_false]
      cases fnd x r with
      | none => rfl
      | some n => simp only [Option.map_some]; show ((i + 1 + n : Nat) : Int) = ((i + (n + 1) : Nat) : Int); omega
theorem fnd_some {x : List UInt8} : ∀ {s : List UInt8} {n : Nat}, fnd x s = some n → x.isPrefixOf (s.drop n) = true ∧ n + x.length ≤ s.length
  | [], n, h => by
    unfold fnd at h; split at h
    · injection h with h; subst h
      rename_i hx
      cases x with
      | nil => simp
      | cons _ _ => simp at hx
    · cases h
  | c :: r, n, h => by
    unfold fnd at h; split at h
    · injection h with h; subst h
      rename_i hx; refine ⟨hx, ?_⟩; have := (List.isPrefixOf_iff_prefix.1 hx).length_le; omega
    · cases hr : fnd x r with
      | none => rw [hr] at h; cases h
      | some m =>
        rw [hr] at h
        injection h with h; subst h
        obtain ⟨h1, h2⟩ := fnd_some hr
        refine ⟨by simpa using h1, by simp; omega⟩
theorem fnd_least {x : List UInt8} : ∀ {s : List UInt8} {n : Nat}, fnd x s = some n → ∀ m, m < n → x.isPrefixOf (s.drop m) = false
  | [], n, h, m, hm => by
    unfold fnd at h; split at h
    · injection h with h; omega
    · cases h
  | c :: r, n, h, m, hm => by
    unfold fnd at h; split at h
    · injection h with h; omega
    · rename_i hx
      cases hr : fnd x r with
      | none => rw [hr] at h; cases h
      | some k =>
        rw [hr] at h
        injection h with h
        have h : k + 1 = n := h; subst h
        cases m with
        | zero => exact eq_false_of_ne_true hx
        | succ m => simpa using fnd_least hr m (by omega)
theorem fnd_none {x : List UInt8} : ∀ {s : List UInt8}, fnd x s = none → ∀ m, x ≠ [] → x.isPrefixOf (s.drop m) = false
  | [], h, m, hx => by
    cases x with
    | nil => exact absurd rfl hx
    | cons a x => simp
  | c :: r, h, m, hx => by
    unfold fnd at h; split at h
    · cases h
    · rename_i hp
      have hr : fnd x r = none := by
        cases hr : fnd x r with
        | none => rfl
        | some k => rw [hr] at h; cases h
      cases m with
      | zero => exact eq_false_of_ne_true hp
      | succ m => simpa using fnd_none hr m hx
theorem fnd_of {x : List UInt8} {s : List UInt8} {n : Nat} (h1 : x.isPrefixOf (s.drop n) = true) (h2 : ∀ m, m < n → x.isPrefixOf (s.drop m) = false) (hx : x ≠ []) : fnd x s = some n := by
  cases h : fnd x s with
  | none => rw [fnd_none h n hx] at h1; cases h1
  | some k =>
    rcases Nat.lt_trichotomy k n with hk | hk | hk
    · have := (fnd_some h).1; rw [h2 k hk] at this; cases this
    · rw [hk]
    · have := fnd_least h n hk; rw [h1] at this; cases this
theorem fnd_no {x : List UInt8} {s : List UInt8} (h2 : ∀ m, m < s.length → x.isPrefixOf (s.drop m) = false) (hx : x ≠ []) : fnd x s = none := by
  cases h : fnd x s with
  | none => rfl
  | some k =>
    obtain ⟨h3, h4⟩ := fnd_some h; have : 0 < x.length := List.length_pos_iff.2 hx
    rw [h2 k (by omega)] at h3; cases h3
def crlf : List UInt8 := [13, 10]
def crlf2 : List UInt8 := [13, 10, 13, 10]
def lineA (en : List UInt8) (most : Nat) (s : List UInt8) : List UInt8 × Nat × Int :=
  match fnd en (s.take most) with
  | some n => (s.take n, n + en.length, 0)
  | none => ([], 0, if most ≤ s.length then 3 else 6)
def hexB (c : UInt8) : Bool := (decide (48 ≤ c.toNat) && decide (c.toNat ≤ 57)) || (decide (97 ≤ c.toNat) && decide (c.toNat ≤ 102)) || (decide (65 ≤ c.toNat) && decide (c.toNat ≤ 70))
def hexD (c : UInt8) : Nat := if c.toNat ≤ 57 then c.toNat - 48 else if 97 ≤ c.toNat then c.toNat - 87 else c.toNat - 55
def hexV : Nat → List UInt8 → Nat
  | n, [] => n
  | n, c :: r => hexV (16 * n + hexD c) r
def extB (c : UInt8) : Bool := decide (c.toNat = 9) || (decide (32 ≤ c.toNat) && decide (c.toNat ≤ 126))
def sizeV (s : List UInt8) : Option Nat :=
  if s.takeWhile hexB = [] then none else if 8 < (s.takeWhile hexB).length then none else
  match s.dropWhile hexB with
  | [] => some (hexV 0 (s.takeWhile hexB))
  | c :: m => if c = 59 ∧ m.all extB = true then some (hexV 0 (s.takeWhile hexB)) else none
def sizeA (s : List UInt8) : Nat × Int := match sizeV s with
  | some n => (n, 0)
  | none => (0, 4)
def tokS (s : List UInt8) : Bool := tokenB s
def valC (c : UInt8) : Bool := !((decide (c.toNat < 32) && !decide (c.toNat = 9)) || decide (c.toNat = 127))
def valS (s : List UInt8) : Bool := s.all valC && (trB s == s)
def mayF (f : Fld) : Bool := tokS f.name && valS f.value
def longF (f : Fld) : Bool := decide (2048 < f.name.length + 2 + f.value.length)
def oneF (s : List UInt8) : Fld × Int :=
  if 2048 < s.length then (⟨[], []⟩, 3) else
  match fnd [58] s with
  | none => (⟨[], []⟩, 4)
  | some n => if mayF ⟨s.take n, trB (s.drop (n + 1))⟩ = true then (if longF ⟨s.take n, trB (s.drop (n + 1))⟩ = true then (⟨[], []⟩, 3) else (⟨s.take n, trB (s.drop (n + 1))⟩, 0)) else (⟨[], []⟩, 4)
def parF : Nat → Nat → List UInt8 → List Fld × Int
  | 0, _, _ => ([], 0)
  | n + 1, k, s =>
    if s = [] then ([], 0) else
    match fnd crlf s with
    | none => ([], 4)
    | some i =>
      if 64 ≤ k then ([], 3) else
      if (oneF (s.take i)).2 ≠ 0 then ([], (oneF (s.take i)).2) else
      if (parF n (k + 1) (s.drop (i + 2))).2 ≠ 0 then ([], (parF n (k + 1) (s.drop (i + 2))).2) else
      ((oneF (s.take i)).1 :: (parF n (k + 1) (s.drop (i + 2))).1, 0)
def parseF (s : List UInt8) : List Fld × Int := parF (s.length + 1) 0 s
structure Dec where
  body : List UInt8
  used : Nat
  tr : List Fld
  e : Int
def decX (e : Int) : Dec := ⟨[], 0, [], e⟩
def clip (most : Int) : Nat := (max 0 (min most 262144)).toNat
def lastG (r b : List UInt8) (u : Nat) : Dec :=
  if crlf.isPrefixOf r = true then ⟨b, u + 2, [], 0⟩ else
  if (lineA crlf2 8192 r).2.2 ≠ 0 then decX (lineA crlf2 8192 r).2.2 else
  if (parseF ((lineA crlf2 8192 r).1 ++ crlf)).2 ≠ 0 then decX (parseF ((lineA crlf2 8192 r).1 ++ crlf)).2 else
  ⟨b, u + (lineA crlf2 8192 r).2.1, (parseF ((lineA crlf2 8192 r).1 ++ crlf)).1, 0⟩
def restG (m : Nat) (n : Nat) (r b : List UInt8) : Int :=
  if m - b.length < n then 3 else if r.length < n then 6 else
  if crlf.isPrefixOf (r.drop n) = true then 0 else if (r.drop n).isPrefixOf crlf = true then 6 else 4
def decG (m : Nat) : Nat → List UInt8 → List UInt8 → Nat → Dec
  | 0, _, _, _ => decX 6
  | f + 1, r, b, u =>
    if (lineA crlf 2050 r).2.2 ≠ 0 then decX (lineA crlf 2050 r).2.2 else
    if (sizeA (lineA crlf 2050 r).1).2 ≠ 0 then decX (sizeA (lineA crlf 2050 r).1).2 else
    if (sizeA (lineA crlf 2050 r).1).1 = 0 then lastG (r.drop (lineA crlf 2050 r).2.1) b (u + (lineA crlf 2050 r).2.1) else
    if restG m (sizeA (lineA crlf 2050 r).1).1 (r.drop (lineA crlf 2050 r).2.1) b ≠ 0 then decX (restG m (sizeA (lineA crlf 2050 r).1).1 (r.drop (lineA crlf 2050 r).2.1) b) else
    decG m f (r.drop ((lineA crlf 2050 r).2.1 + (sizeA (lineA crlf 2050 r).1).1 + 2)) (b ++ (r.drop (lineA crlf 2050 r).2.1).take (sizeA (lineA crlf 2050 r).1).1) (u + (lineA crlf 2050 r).2.1 + (sizeA (lineA crlf 2050 r).1).1 + 2)
def decA (s : List UInt8) (most : Int) : Dec := decG (clip most) (s.length + 1) s [] 0
end Go.Ai
end
section
namespace Go.Ai
open Go.RowKit
theorem fnd_take {x s : List UInt8} {n p : Nat} (h : fnd x s = some n) (hp : n + x.length ≤ p) (hx : x ≠ []) : fnd x (s.take p) = some n := by
  refine fnd_of ?_ (fun m hm => ?_) hx
  · have := (fnd_some h).1; rw [List.isPrefixOf_iff_prefix] at this ⊢; rw [List.drop_take]
    exact List.prefix_take_iff.2 ⟨this, by omega⟩
  · have := fnd_least h m hm
    refine eq_false_of_ne_true fun hc => ?_
    rw [List.isPrefixOf_iff_prefix, List.drop_take] at hc; have h2 := (List.prefix_take_iff.1 hc).1; rw [← List.isPrefixOf_iff_prefix, this] at h2; cases h2
theorem fnd_take_no {x s : List UInt8} {p : Nat} (h : ∀ n, fnd x s = some n → p < n + x.length) (hx : x ≠ []) : fnd x (s.take p) = none := by
  cases hf : fnd x (s.take p) with
  | none => rfl
  | some k =>
    obtain ⟨h1, h2⟩ := fnd_some hf; rw [List.isPrefixOf_iff_prefix, List.drop_take] at h1; obtain ⟨h3, h4⟩ := List.prefix_take_iff.1 h1
    cases hs : fnd x s with
    | none =>
      have := fnd_none hs k hx; rw [List.isPrefixOf_iff_prefix.2 h3] at this; cases this
    | some n =>
      have h5 := h n hs
      have hkn : n ≤ k := by
        rcases Nat.lt_or_ge k n with hl | hl
        · have := fnd_least hs k hl; rw [List.isPrefixOf_iff_prefix.2 h3] at this; cases this
        · exact hl
      simp at h2; omega
theorem fnd_app {x s : List UInt8} {n : Nat} (h : fnd x s = some n) (hx : x ≠ []) (y : List UInt8) : fnd x (s ++ y) = some n := by
  obtain ⟨h1, h2⟩ := fnd_some h; have hl := fnd_least h
  refine fnd_of ?_ (fun m hm => ?_) hx
  · rw [List.drop_append_of_le_length (by omega)]
    rw [List.isPrefixOf_iff_prefix] at h1 ⊢; exact h1.trans (List.prefix_append _ _)
  · refine eq_false_of_ne_true fun hc => ?_
    have h3 := hl m hm
    rw [List.drop_append_of_le_length (by omega), List.isPrefixOf_iff_prefix] at hc
    have : x <+: s.drop m := List.prefix_of_prefix_length_le hc (List.prefix_append _ _) (by simp; omega)
    rw [List.isPrefixOf_iff_prefix.2 this] at h3; cases h3
theorem lineA_ok {en s h : List UInt8} {most k : Nat} (hl : lineA en most s = (h, k, 0)) : ∃ n, fnd en (s.take most) = some n ∧ h = s.take n ∧ k = n + en.length ∧ k ≤ most ∧ k ≤ s.length := by
  unfold lineA at hl; split at hl
  · rename_i n hn; simp only [Prod.mk.injEq] at hl; obtain ⟨rfl, rfl, -⟩ := hl; have := (fnd_some hn).2; simp at this
    exact ⟨n, hn, rfl, rfl, by omega, by omega⟩
  · simp only [Prod.mk.injEq] at hl; have := hl.2.2
    split at this <;> cases this
theorem lineA_take {en s h : List UInt8} {most k p : Nat} (hen : en ≠ []) (hl : lineA en most s = (h, k, 0)) (hp : k ≤ p) : lineA en most (s.take p) = (h, k, 0) := by
  obtain ⟨n, h1, h2, h3, h4, h5⟩ := lineA_ok hl
  have : fnd en ((s.take p).take most) = some n := by
    rw [List.take_take, Nat.min_comm, ← List.take_take]
    exact fnd_take h1 (by omega) hen
  unfold lineA; rw [this]; simp only [Prod.mk.injEq, and_true]
  refine ⟨?_, by omega⟩
  rw [h2, List.take_take, Nat.min_eq_left (by omega)]
theorem lineA_short {en s h : List UInt8} {most k p : Nat} (hen : en ≠ []) (hl : lineA en most s = (h, k, 0)) (hp : p < k) : lineA en most (s.take p) = ([], 0, 6) := by
  obtain ⟨n, h1, h2, h3, h4, h5⟩ := lineA_ok hl
  have : fnd en ((s.take p).take most) = none := by
    rw [List.take_take, Nat.min_comm, ← List.take_take]
    exact fnd_take_no (fun m hm => by rw [h1] at hm; injection hm; omega) hen
  unfold lineA
  rw [this, if_neg (by simp; omega)]
theorem lineA_app {en s h : List UInt8} {most k : Nat} (hen : en ≠ []) (hl : lineA en most s = (h, k, 0)) (x : List UInt8) : lineA en most (s ++ x) = (h, k, 0) := by
  obtain ⟨n, h1, h2, h3, h4, h5⟩ := lineA_ok hl
  have : fnd en ((s ++ x).take most) = some n := by
    rw [List.take_append]; exact fnd_app h1 hen _
  unfold lineA; rw [this]; simp only [Prod.mk.injEq, and_true]
  refine ⟨?_, by omega⟩
  rw [h2, List.take_append_of_le_length (by omega)]
theorem lastG_e (r b : List UInt8) (u : Nat) : (lastG r b u).e = 0 ∨ lastG r b u = decX (lastG r b u).e := by
  unfold lastG
  repeat' split
  · exact .inl rfl
  · exact .inr rfl
  · exact .inr rfl
  · exact .inl rfl
theorem decG_e (m : Nat) : ∀ (f : Nat) (r b : List UInt8) (u : Nat), (decG m f r b u).e = 0 ∨ decG m f r b u = decX (decG m f r b u).e
  | 0, r, b, u => .inr rfl
  | f + 1, r, b, u => by
    rw [decG]
    repeat' split
    · exact .inr rfl
    · exact .inr rfl
    · exact lastG_e _ _ _
    · exact .inr rfl
    · exact decG_e m f _ _ _
theorem decA_e (s : List UInt8) (most : Int) : (decA s most).e = 0 ∨ decA s most = decX (decA s most).e := decG_e _ _ _ _ _
theorem size_zero {s : List UInt8} {z : Nat} (h : sizeA s = (z, 0)) : 1 ≤ s.length := by
  cases s with
  | nil => simp [sizeA, sizeV] at h
  | cons _ _ => simp
theorem dec_step {m f : Nat} {r b : List UInt8} {u : Nat} (h : (decG m (f + 1) r b u).e = 0) : ∃ n z, lineA crlf 2050 r = (r.take n, n + 2, 0) ∧ n + 2 ≤ r.length ∧ 1 ≤ n ∧ sizeA (r.take n) = (z, 0) ∧
    ((z = 0 ∧ decG m (f + 1) r b u = lastG (r.drop (n + 2)) b (u + (n + 2))) ∨ (z ≠ 0 ∧ restG m z (r.drop (n + 2)) b = 0 ∧ decG m (f + 1) r b u = decG m f (r.drop (n + 2 + z + 2)) (b ++ (r.drop (n + 2)).take z) (u + (n + 2) + z + 2))) := by
  have h0 := h; rw [decG] at h; split at h
  · rename_i hc; exact absurd h hc
  rename_i h1
  have h1 : (lineA crlf 2050 r).2.2 = 0 := by simpa using h1
  split at h
  · rename_i hc; exact absurd h hc
  rename_i h2
  have h2 : (sizeA (lineA crlf 2050 r).1).2 = 0 := by simpa using h2
  obtain ⟨n, g1, g2, g3, g4, g5⟩ := lineA_ok (en := crlf) (most := 2050) (s := r) (h := (lineA crlf 2050 r).1) (k := (lineA crlf 2050 r).2.1) (by rw [← h1])
  have e1 : lineA crlf 2050 r = (r.take n, n + 2, 0) := by
    rw [show lineA crlf 2050 r = ((lineA crlf 2050 r).1, (lineA crlf 2050 r).2.1, (lineA crlf 2050 r).2.2) from rfl, g2, g3, h1]; rfl
  have e2 : sizeA (r.take n) = ((sizeA (r.take n)).1, 0) := by
    rw [e1] at h2
    rw [show sizeA (r.take n) = ((sizeA (r.take n)).1, (sizeA (r.take n)).2) from rfl, h2]
  have hn := size_zero e2
  have hn1 : 1 ≤ n := by
    simp at hn; omega
  have g5' : n + 2 ≤ r.length := by rw [g3] at g5; exact g5
  refine ⟨n, (sizeA (r.take n)).1, e1, g5', hn1, e2, ?_⟩
  by_cases hz : (sizeA (r.take n)).1 = 0
  · refine .inl ⟨hz, ?_⟩; rw [decG, e1]; simp only
    rw [if_neg (by simp), if_neg (by rw [e2]; simp), if_pos hz]
  · refine .inr ⟨hz, ?_⟩; rw [e1] at h; simp only at h; rw [if_neg hz] at h; split at h
    · rename_i hc; exact absurd h hc
    rename_i h3
    have h3 : restG m (sizeA (r.take n)).1 (r.drop (n + 2)) b = 0 := by simpa using h3
    refine ⟨h3, ?_⟩; rw [decG, e1]; simp only
    rw [if_neg (by simp), if_neg (by rw [e2]; simp), if_neg hz, if_neg (by rw [h3]; simp)]
theorem dec_last {m f : Nat} {r b h : List UInt8} {u k : Nat} (h1 : lineA crlf 2050 r = (h, k, 0)) (h2 : sizeA h = (0, 0)) : decG m (f + 1) r b u = lastG (r.drop k) b (u + k) := by
  rw [decG, h1]; simp only
  rw [if_neg (by simp), h2, if_neg (by simp), if_pos rfl]
theorem dec_more {m f z : Nat} {r b h : List UInt8} {u k : Nat} (h1 : lineA crlf 2050 r = (h, k, 0)) (h2 : sizeA h = (z, 0)) (hz : z ≠ 0) (h3 : restG m z (r.drop k) b = 0) :
    decG m (f + 1) r b u = decG m f (r.drop (k + z + 2)) (b ++ (r.drop k).take z) (u + k + z + 2) := by
  rw [decG, h1]; simp only
  rw [if_neg (by simp), h2, if_neg (by simp), if_neg hz, if_neg (by rw [h3]; simp)]
theorem dec_rest {m f z : Nat} {r b h : List UInt8} {u k : Nat} (h1 : lineA crlf 2050 r = (h, k, 0)) (h2 : sizeA h = (z, 0)) (hz : z ≠ 0) (h3 : restG m z (r.drop k) b ≠ 0) :
    decG m (f + 1) r b u = decX (restG m z (r.drop k) b) := by
  rw [decG, h1]; simp only
  rw [if_neg (by simp), h2, if_neg (by simp), if_neg hz, if_pos h3]
theorem restG_ok {m z : Nat} {r b : List UInt8} (h : restG m z r b = 0) : z ≤ m - b.length ∧ z + 2 ≤ r.length ∧ crlf.isPrefixOf (r.drop z) = true := by
  unfold restG at h; split at h
  · cases h
  split at h
  · cases h
  split at h
  · rename_i h1 h2 h3; have := (List.isPrefixOf_iff_prefix.1 h3).length_le; simp [crlf] at this
    exact ⟨by omega, by omega, h3⟩
  · split at h <;> cases h
theorem restG_mk {m z : Nat} {r b : List UInt8} (h1 : z ≤ m - b.length) (h2 : z ≤ r.length) (h3 : crlf.isPrefixOf (r.drop z) = true) : restG m z r b = 0 := by
  unfold restG
  rw [if_neg (by omega), if_neg (by omega), if_pos h3]
theorem dec_fuel (m : Nat) : ∀ (f g : Nat) (r b : List UInt8) (u : Nat), (decG m f r b u).e = 0 → r.length < g → decG m g r b u = decG m f r b u
  | 0, g, r, b, u, h, _ => by cases h
  | f + 1, 0, r, b, u, h, hg => by omega
  | f + 1, g + 1, r, b, u, h, hg => by
    obtain ⟨n, z, h1, h2, h3, h4, ⟨hz, h5⟩ | ⟨hz, h5, h6⟩⟩ := dec_step h
    · subst hz; rw [dec_last h1 h4, dec_last h1 h4]
    · rw [dec_more h1 h4 hz h5, dec_more h1 h4 hz h5]; rw [h6] at h
      exact dec_fuel m f g _ _ _ h (by simp; omega)
theorem crlf_ne : crlf ≠ [] := by simp [crlf]
theorem crlf2_ne : crlf2 ≠ [] := by simp [crlf2]
theorem pre_app {x s : List UInt8} (y : List UInt8) (h : x.isPrefixOf s = true) : x.isPrefixOf (s ++ y) = true := by
  rw [List.isPrefixOf_iff_prefix] at h ⊢; exact h.trans (List.prefix_append _ _)
theorem pre_app_no {x s : List UInt8} (y : List UInt8) (hl : x.length ≤ s.length) (h : ¬ x.isPrefixOf s = true) : ¬ x.isPrefixOf (s ++ y) = true := fun hc => h (by
  rw [List.isPrefixOf_iff_prefix] at hc ⊢
  exact List.prefix_of_prefix_length_le hc (List.prefix_append _ _) hl)
theorem last_step {r b : List UInt8} {u : Nat} (h : (lastG r b u).e = 0) : (crlf.isPrefixOf r = true ∧ 2 ≤ r.length ∧ lastG r b u = ⟨b, u + 2, [], 0⟩) ∨
    (¬ crlf.isPrefixOf r = true ∧ ∃ n, lineA crlf2 8192 r = (r.take n, n + 4, 0) ∧ n + 4 ≤ r.length ∧ (parseF (r.take n ++ crlf)).2 = 0 ∧ lastG r b u = ⟨b, u + (n + 4), (parseF (r.take n ++ crlf)).1, 0⟩) := by
  unfold lastG at h ⊢
  by_cases hp : crlf.isPrefixOf r = true
  · have := (List.isPrefixOf_iff_prefix.1 hp).length_le
    exact .inl ⟨hp, by simpa [crlf] using this, by rw [if_pos hp]⟩
  · refine .inr ⟨hp, ?_⟩; rw [if_neg hp] at h ⊢; split at h
    · rename_i hc; exact absurd h hc
    rename_i h1
    have h1 : (lineA crlf2 8192 r).2.2 = 0 := by simpa using h1
    obtain ⟨n, g1, g2, g3, g4, g5⟩ := lineA_ok (en := crlf2) (most := 8192) (s := r) (h := (lineA crlf2 8192 r).1) (k := (lineA crlf2 8192 r).2.1) (by rw [← h1])
    have e1 : lineA crlf2 8192 r = (r.take n, n + 4, 0) := by
      rw [show lineA crlf2 8192 r = ((lineA crlf2 8192 r).1, (lineA crlf2 8192 r).2.1, (lineA crlf2 8192 r).2.2) from rfl, g2, g3, h1]; rfl
    rw [e1] at h ⊢; simp only at h ⊢; split at h
    · rename_i hc; exact absurd h hc
    rename_i h2
    have h2 : (parseF (r.take n ++ crlf)).2 = 0 := by simpa using h2
    refine ⟨n, rfl, by rw [g3] at g5; exact g5, h2, ?_⟩
    rw [if_neg (by simp), if_neg (by rw [h2]; simp)]
theorem last_mk {r b : List UInt8} {u n : Nat} {hd : List UInt8} (h1 : ¬ crlf.isPrefixOf r = true) (h2 : lineA crlf2 8192 r = (hd, n, 0)) (h3 : (parseF (hd ++ crlf)).2 = 0) : lastG r b u = ⟨b, u + n, (parseF (hd ++ crlf)).1, 0⟩ := by
  unfold lastG; rw [if_neg h1, h2]; simp only
  rw [if_neg (by simp), if_neg (by rw [h3]; simp)]
theorem last_app {r b : List UInt8} {u : Nat} (h : (lastG r b u).e = 0) (x : List UInt8) : lastG (r ++ x) b u = lastG r b u := by
  rcases last_step h with ⟨h1, h2, h3⟩ | ⟨h1, n, h2, h3, h4, h5⟩
  · rw [h3]; unfold lastG; rw [if_pos (pre_app x h1)]
  · rw [h5]
    exact last_mk (pre_app_no x (by simp [crlf]; omega) h1) (lineA_app crlf2_ne h2 x) h4
theorem dec_app (m : Nat) : ∀ (f : Nat) (r b : List UInt8) (u : Nat) (x : List UInt8), (decG m f r b u).e = 0 → decG m f (r ++ x) b u = decG m f r b u
  | 0, r, b, u, x, h => rfl
  | f + 1, r, b, u, x, h => by
    obtain ⟨n, z, h1, h2, h3, h4, ⟨hz, h5⟩ | ⟨hz, h5, h6⟩⟩ := dec_step h
    · subst hz; rw [dec_last (lineA_app crlf_ne h1 x) h4, dec_last h1 h4, List.drop_append_of_le_length h2]; rw [h5] at h; exact last_app h x
    · obtain ⟨q1, q2, q3⟩ := restG_ok h5
      have q2' : n + 2 + z + 2 ≤ r.length := by simp at q2; omega
      have e0 : (r ++ x).drop (n + 2) = r.drop (n + 2) ++ x := List.drop_append_of_le_length h2
      have hr : restG m z ((r ++ x).drop (n + 2)) b = 0 := by
        rw [e0]
        exact restG_mk q1 (by simp; omega) (by rw [List.drop_append_of_le_length (by omega)]; exact pre_app x q3)
      rw [dec_more (lineA_app crlf_ne h1 x) h4 hz hr, dec_more h1 h4 hz h5, e0, List.take_append_of_le_length (by omega), List.drop_append_of_le_length q2']
      rw [h6] at h; exact dec_app m f _ _ _ x h
theorem last_take {r b : List UInt8} {u : Nat} (h : (lastG r b u).e = 0) : u + 2 ≤ (lastG r b u).used ∧ (lastG r b u).used ≤ u + r.length ∧ lastG (r.take ((lastG r b u).used - u)) b u = lastG r b u ∧
    ∀ p, p < (lastG r b u).used - u → lastG (r.take p) b u = decX 6 := by
  have key : ∀ p, lineA crlf2 8192 (r.take p) = ([], 0, 6) → ¬ crlf.isPrefixOf (r.take p) = true → lastG (r.take p) b u = decX 6 := fun p h1 h2 => by
    unfold lastG
    rw [if_neg h2, h1, if_pos (by simp)]
  rcases last_step h with ⟨h1, h2, h3⟩ | ⟨h1, n, h2, h3, h4, h5⟩
  · rw [h3]
    refine ⟨Nat.le_refl _, by show u + 2 ≤ u + r.length; omega, ?_, fun p hp => ?_⟩
    · have e : (Dec.mk b (u + 2) [] 0).used - u = 2 := by show u + 2 - u = 2; omega
      rw [e]; unfold lastG
      rw [if_pos (by rw [List.isPrefixOf_iff_prefix] at h1 ⊢; exact List.prefix_take_iff.2 ⟨h1, by simp [crlf]⟩)]
    · have hp : p < 2 := by
        have e : (Dec.mk b (u + 2) [] 0).used - u = 2 := by show u + 2 - u = 2; omega
        omega
      refine key p ?_ ?_
      · have : fnd crlf2 ((r.take p).take 8192) = none := by
          cases hf : fnd crlf2 ((r.take p).take 8192) with
          | none => rfl
          | some k => have := (fnd_some hf).2; simp [crlf2] at this; omega
        unfold lineA
        rw [this, if_neg (by simp; omega)]
      · intro hc; have := (List.isPrefixOf_iff_prefix.1 hc).length_le; simp [crlf] at this; omega
  · have e : (lastG r b u).used - u = n + 4 := by rw [h5]; show u + (n + 4) - u = n + 4; omega
    have e2 : (lastG r b u).used = u + (n + 4) := by rw [h5]
    rw [e, e2]
    have hno : ∀ p, ¬ crlf.isPrefixOf (r.take p) = true := fun p hc => h1 (by
      rw [List.isPrefixOf_iff_prefix] at hc ⊢
      exact hc.trans (List.take_prefix _ _))
    refine ⟨by omega, by omega, ?_, fun p hp => key p (lineA_short crlf2_ne h2 hp) (hno p)⟩
    rw [h5]; exact last_mk (hno _) (lineA_take crlf2_ne h2 (Nat.le_refl _)) h4
theorem dec_take (m : Nat) : ∀ (f : Nat) (r b : List UInt8) (u : Nat), (decG m f r b u).e = 0 → u + 5 ≤ (decG m f r b u).used ∧ (decG m f r b u).used ≤ u + r.length ∧ decG m f (r.take ((decG m f r b u).used - u)) b u = decG m f r b u ∧
    ∀ p g, p < (decG m f r b u).used - u → decG m g (r.take p) b u = decX 6
  | 0, r, b, u, h => by cases h
  | f + 1, r, b, u, h => by
    obtain ⟨n, z, h1, h2, h3, h4, ⟨hz, h5⟩ | ⟨hz, h5, h6⟩⟩ := dec_step h
    · subst hz; rw [h5] at h ⊢; obtain ⟨k1, k2, k3, k4⟩ := last_take h; generalize hd : lastG (r.drop (n + 2)) b (u + (n + 2)) = d at *; rw [List.length_drop] at k2
      refine ⟨by omega, by omega, ?_, fun p g hp => ?_⟩
      · rw [dec_last (lineA_take crlf_ne h1 (by omega)) h4, List.drop_take, show d.used - u - (n + 2) = d.used - (u + (n + 2)) by omega]
        exact k3
      · cases g with
        | zero => rfl
        | succ g =>
          rcases Nat.lt_or_ge p (n + 2) with hq | hq
          · rw [decG, lineA_short crlf_ne h1 hq, if_pos (by simp)]
          · rw [dec_last (lineA_take crlf_ne h1 hq) h4, List.drop_take]
            exact k4 _ (by omega)
    · obtain ⟨q1, q2, q3⟩ := restG_ok h5
      have q2' : n + 2 + z + 2 ≤ r.length := by simp at q2; omega
      rw [h6] at h ⊢; obtain ⟨k1, k2, k3, k4⟩ := dec_take m f _ _ _ h; generalize hd : decG m f (r.drop (n + 2 + z + 2)) (b ++ (r.drop (n + 2)).take z) (u + (n + 2) + z + 2) = d at *; rw [List.length_drop] at k2
      have go : ∀ p g, n + 2 + z + 2 ≤ p → decG m (g + 1) (r.take p) b u = decG m g ((r.drop (n + 2 + z + 2)).take (p - (n + 2 + z + 2))) (b ++ (r.drop (n + 2)).take z) (u + (n + 2) + z + 2) := fun p g hp => by
        have e0 : (r.take p).drop (n + 2) = (r.drop (n + 2)).take (p - (n + 2)) := List.drop_take
        have hr : restG m z ((r.take p).drop (n + 2)) b = 0 := by
          rw [e0]
          refine restG_mk q1 (by simp; omega) ?_
          rw [List.drop_take]; rw [List.isPrefixOf_iff_prefix] at q3 ⊢
          exact List.prefix_take_iff.2 ⟨q3, by simp [crlf]; omega⟩
        rw [dec_more (lineA_take crlf_ne h1 (by omega)) h4 hz hr, e0, List.take_take, Nat.min_eq_left (by omega), List.drop_take]
      refine ⟨by omega, by omega, ?_, fun p g hp => ?_⟩
      · rw [go _ _ (by omega), show d.used - u - (n + 2 + z + 2) = d.used - (u + (n + 2) + z + 2) by omega]
        exact k3
      · cases g with
        | zero => rfl
        | succ g =>
          rcases Nat.lt_or_ge p (n + 2) with hq | hq
          · rw [decG, lineA_short crlf_ne h1 hq, if_pos (by simp)]
          rcases Nat.lt_or_ge p (n + 2 + z + 2) with hq2 | hq2
          · have e0 : (r.take p).drop (n + 2) = (r.drop (n + 2)).take (p - (n + 2)) := List.drop_take
            have hr : restG m z ((r.take p).drop (n + 2)) b = 6 := by
              rw [e0]; unfold restG
              rw [if_neg (by omega)]
              rcases Nat.lt_or_ge p (n + 2 + z) with hq3 | hq3
              · rw [if_pos (by simp; omega)]
              · rw [if_neg (by simp; omega), List.drop_take, if_neg (by
                  intro hc; have := (List.isPrefixOf_iff_prefix.1 hc).length_le; simp [crlf] at this
                  omega), if_pos (by
                  rw [List.isPrefixOf_iff_prefix] at q3 ⊢
                  exact List.prefix_of_prefix_length_le (List.take_prefix _ _) q3 (by simp [crlf]; omega))]
            rw [dec_rest (lineA_take crlf_ne h1 hq) h4 hz (by rw [hr]; decide), hr]
          · rw [go _ _ hq2]
            exact k4 _ g (by omega)
theorem decA_cut {s : List UInt8} {most : Int} (h : (decA s most).e = 0) : 5 ≤ (decA s most).used ∧ (decA s most).used ≤ s.length ∧ (∀ p, p < (decA s most).used → decA (s.take p) most = decX 6) ∧
    ∀ x, decA (s.take (decA s most).used ++ x) most = decA s most := by
  have h' : (decG (clip most) (s.length + 1) s [] 0).e = 0 := h; obtain ⟨k1, k2, k3, k4⟩ := dec_take (clip most) _ s [] 0 h'; have e : (decG (clip most) (s.length + 1) s [] 0).used = (decA s most).used := rfl; rw [e] at k1 k2 k3 k4; rw [Nat.sub_zero] at k3 k4
  refine ⟨by omega, by omega, fun p hp => k4 p _ hp, fun x => ?_⟩
  have h3 : (decG (clip most) (s.length + 1) (s.take (decA s most).used) [] 0).e = 0 := by rw [k3]; exact h'
  have h4 := dec_app (clip most) (s.length + 1) _ [] 0 x h3
  have h5 := dec_fuel (clip most) (s.length + 1) ((s.take (decA s most).used ++ x).length + 1) _ [] 0 (by rw [h4]; exact h3) (Nat.lt_succ_self _)
  show decG (clip most) ((s.take (decA s most).used ++ x).length + 1) (s.take (decA s most).used ++ x) [] 0 = _; rw [h5, h4, k3]; rfl
theorem hexV_app : ∀ (a b : List UInt8) (n : Nat), hexV n (a ++ b) = hexV (hexV n a) b
  | [], b, n => rfl
  | c :: a, b, n => by simp only [List.cons_append, hexV]; exact hexV_app a b _
theorem takeWhile_all' {p : UInt8 → Bool} : ∀ {l : List UInt8}, (∀ c ∈ l, p c = true) → l.takeWhile p = l ∧ l.dropWhile p = []
  | [], _ => ⟨rfl, rfl⟩
  | c :: l, h => by
    obtain ⟨h1, h2⟩ := takeWhile_all' (p := p) (l := l) fun d hd => h d (by simp [hd])
    rw [List.takeWhile_cons_of_pos (h c (by simp)), List.dropWhile_cons_of_pos (h c (by simp)), h1, h2]
    exact ⟨rfl, rfl⟩
theorem fnd_crlf : ∀ (a r : List UInt8), (∀ c ∈ a, c ≠ 13) → fnd crlf (a ++ (crlf ++ r)) = some a.length
  | [], r, _ => by simp [fnd, crlf]
  | c :: a, r, h => by
    have hc := h c (by simp)
    have : crlf.isPrefixOf (c :: (a ++ (crlf ++ r))) = false := by
      refine eq_false_of_ne_true fun hp => hc ?_
      simp [crlf] at hp; exact hp.1.symm
    rw [List.cons_append, fnd, this, if_neg (by simp), fnd_crlf a r fun d hd => h d (by simp [hd])]
    rfl
end Go.Ai
end
section
namespace Go.Ai
open Go.RowKit
def big : Nat := 100000
def letterB (c : UInt8) : Bool := (decide (65 ≤ c.toNat) && decide (c.toNat ≤ 90)) || (decide (97 ≤ c.toNat) && decide (c.toNat ≤ 122)) || (decide (48 ≤ c.toNat) && decide (c.toNat ≤ 57))
def byteC (p : UInt8 → Bool) : Con := fun vs h K => ∃ c : UInt8, vs = [.int .u8 c.toNat] ∧ K (.bool (p c)) h
def inC : Con := fun vs h K => ∃ (c : UInt8) (s : List UInt8), s.length ≤ big ∧ vs = [.int .u8 c.toNat, .str s] ∧ K (.bool (s.contains c)) h
def ixC : Con := fun vs h K => ∃ (s : List UInt8) (c : UInt8), vs = [.str s, .int .u8 c.toNat] ∧ K (.int .i64 (Lib.indexByte s c)) h
def strC (p : List UInt8 → Bool) : Con := fun vs h K => ∃ s : List UInt8, s.length ≤ big ∧ vs = [.str s] ∧ K (.bool (p s)) h
def prefC : Con := fun vs h K => ∃ s x : List UInt8, vs = [.str s, .str x] ∧ K (.bool (x.isPrefixOf s)) h
end Go.Ai
namespace Go.Ai
def ixSC : Con := fun vs h K => ∃ s x : List UInt8, s.length ≤ lim ∧ vs = [.str s, .str x] ∧ K (.int .i64 (idxB s x 0)) h
def cutGC : Con := fun vs h K => ∃ s x : List UInt8, s.length ≤ lim ∧ vs = [.str s, .str x] ∧ K (.tup [.str (cutS s x).1, .str (cutS s x).2.1, .bool (cutS s x).2.2]) h
def lineC : Con := fun vs h K => ∃ (s en : List UInt8) (m : Nat), s.length ≤ lim ∧ en.length ≤ 100 ∧ m ≤ lim ∧ vs = [.str s, .str en, .int .i64 m] ∧ K (.tup [.str (lineA en m s).1, .int .i64 (lineA en m s).2.1, .int .i64 (lineA en m s).2.2]) h
def hexOk (s : List UInt8) : Prop := s ≠ [] ∧ s.length ≤ 8 ∧ s.all hexB = true
def puC : Con := fun vs h K => ∃ s : List UInt8, hexOk s ∧ vs = [.str s, .int .i64 16, .int .i64 64] ∧ K (.tup [.int .u64 (hexV 0 s), .nili]) h
def sizeC : Con := fun vs h K => ∃ s : List UInt8, s.length ≤ big ∧ vs = [.str s] ∧ K (.tup [.int .i64 (sizeA s).1, .int .i64 (sizeA s).2]) h
def sizeN (s : List UInt8) : Int := match sizeV s with | some n => ((n : Nat) : Int) | none => -1
def sizeRC : Con := fun vs h K => ∃ s : List UInt8, s.length ≤ big ∧ vs = [.str s] ∧ K (.int .i64 (sizeN s)) h
def fldC (p : Fld → Bool) : Con := fun vs h K => ∃ a b : List UInt8, a.length ≤ big ∧ b.length ≤ big ∧ vs = [.agg [.str a, .str b]] ∧ K (.bool (p ⟨a, b⟩)) h
def fldSC : Con := fun vs h K => ∃ a b : List UInt8, a.length ≤ big ∧ b.length ≤ big ∧ vs = [.agg [.str a, .str b]] ∧ K (.str (a ++ [58, 32] ++ b)) h
def parseC : Con := fun vs h K => ∃ s : List UInt8, s.length ≤ big ∧ vs = [.str s] ∧ K (.tup [.sl 2 (encFs (parseF s).1) none, .int .i64 (parseF s).2]) h
def oneC : Con := fun vs h K => ∃ s : List UInt8, s.length ≤ big ∧ vs = [.str s] ∧ K (.tup [.agg [.str (oneF s).1.name, .str (oneF s).1.value], .int .i64 (oneF s).2]) h
def hexDC : Con := fun vs h K => ∃ c : UInt8, vs = [.int .u8 c.toNat] ∧ K (.int .i64 (if hexB c = true then ((hexD c : Nat) : Int) else -1)) h
def endsB (s : List UInt8) (n : Nat) : Bool := crlf.isPrefixOf (s.drop n)
def endsC : Con := fun vs h K => ∃ (s : List UInt8) (n : Nat), s.length ≤ lim ∧ n ≤ lim ∧ vs = [.str s, .int .i64 n] ∧ K (.bool (endsB s n)) h
def headA (s : List UInt8) (n : Nat) : Nat × Int := match fnd crlf ((s.drop n).take 2050) with
  | some i => (n + i, 0)
  | none => (0, if 2050 ≤ (s.drop n).length then 3 else 6)
def tailA (s : List UInt8) (n : Nat) : Nat × Int := if endsB s n = true then (n + 2, 0) else match fnd crlf2 ((s.drop n).take 8192) with
  | some i => (n + i + 4, 0)
  | none => (0, if 8192 ≤ (s.drop n).length then 3 else 6)
def decC : Con := fun vs h K => ∃ (s : List UInt8) (m : Int), s.length ≤ lim ∧ -9223372036854775808 ≤ m ∧ m ≤ 9223372036854775807 ∧ vs = [.str s, .int .i64 m] ∧
  K (.tup [.str (decA s m).body, .int .i64 (decA s m).used, .sl 2 (encFs (decA s m).tr) none, .int .i64 (decA s m).e]) h
end Go.Ai
namespace Go.Ai
def lowerBC : Con := fun vs h K => ∃ c : UInt8, vs = [.int .u8 c.toNat] ∧ K (.int .u8 ((c ||| 32).toNat : Nat)) h
end Go.Ai
namespace Go.Ai
def copyA : Con := fun vs h K => match h with
  | [.grow g s0 e0, .grow n s1 e1, .mem t [p, .sl s2 es (some i)]] => ∃ acc : List UInt8, (s1 = 1 ∧ e1 = 5 ∧ t = 113 ∧ s2 = 1 ∧ i = 1) ∧ (p = .nilp ∨ p = .ptr 2 0) ∧ es = rb acc ∧ vs = [.ptr 2 0] ∧ K (.tup []) [.grow g s0 e0, .grow n 1 5, .mem 113 [.ptr 2 0, .sl 1 (rb acc) (some 1)]]
  | [.grow g s0 e0, .grow m s3 e3, .grow n s1 e1, .mem t [p, .sl s2 es (some i)]] => ∃ acc : List UInt8, (s1 = 1 ∧ e1 = 5 ∧ t = 113 ∧ s2 = 1 ∧ i = 2) ∧ (p = .nilp ∨ p = .ptr 3 0) ∧ es = rb acc ∧ vs = [.ptr 3 0] ∧ K (.tup []) [.grow g s0 e0, .grow m s3 e3, .grow n 1 5, .mem 113 [.ptr 3 0, .sl 1 (rb acc) (some 2)]]
  | _ => False
def writeA : Con := fun vs h K => match h with
  | [.grow g s0 e0, .grow n s1 e1, .mem t [p, .sl s2 es (some i)]] => ∃ acc x : List UInt8, (s1 = 1 ∧ e1 = 5 ∧ t = 113 ∧ s2 = 1 ∧ i = 1) ∧ (p = .nilp ∨ p = .ptr 2 0) ∧ es = rb acc ∧ n = acc.length ∧ acc.length + x.length ≤ 1000000000 ∧ vs = [.ptr 2 0, .str x] ∧
      K (.tup [.int .i64 ((x.length : Nat) : Int), .nili]) [.grow g s0 e0, .grow (acc ++ x).length 1 5, .mem 113 [.ptr 2 0, .sl 1 (rb (acc ++ x)) (some 1)]]
  | [.grow g s0 e0, .grow m s3 e3, .grow n s1 e1, .mem t [p, .sl s2 es (some i)]] => ∃ acc x : List UInt8, (s1 = 1 ∧ e1 = 5 ∧ t = 113 ∧ s2 = 1 ∧ i = 2) ∧ (p = .nilp ∨ p = .ptr 3 0) ∧ es = rb acc ∧ n = acc.length ∧ acc.length + x.length ≤ 1000000000 ∧ vs = [.ptr 3 0, .str x] ∧
      K (.tup [.int .i64 ((x.length : Nat) : Int), .nili]) [.grow g s0 e0, .grow m s3 e3, .grow (acc ++ x).length 1 5, .mem 113 [.ptr 3 0, .sl 1 (rb (acc ++ x)) (some 2)]]
  | _ => False
def lenA' : Con := fun vs h K => match h with
  | [.grow g s0 e0, .grow n s1 e1, .mem t [p, .sl s2 es (some i)]] => ∃ acc : List UInt8, (s1 = 1 ∧ e1 = 5 ∧ t = 113 ∧ s2 = 1 ∧ i = 1) ∧ (p = .nilp ∨ p = .ptr 2 0) ∧ es = rb acc ∧ n = acc.length ∧ vs = [.ptr 2 0] ∧
      K (.int .i64 ((acc.length : Nat) : Int)) [.grow g s0 e0, .grow acc.length 1 5, .mem 113 [p, .sl 1 (rb acc) (some 1)]]
  | _ => False
def strA : Con := fun vs h K => match h with
  | [.grow g s0 e0, .grow n s1 e1, .mem t [p, .sl s2 es (some i)]] => ∃ acc : List UInt8, (s1 = 1 ∧ e1 = 5 ∧ t = 113 ∧ s2 = 1 ∧ i = 1) ∧ es = rb acc ∧ n = acc.length ∧ vs = [.ptr 2 0] ∧
      K (.str acc) [.grow g s0 e0, .dead, .mem 113 [p, .sl 1 (rb acc) (some 1)]]
  | [.grow g s0 e0, .grow m s3 e3, .grow n s1 e1, .mem t [p, .sl s2 es (some i)]] => ∃ acc : List UInt8, (s1 = 1 ∧ e1 = 5 ∧ t = 113 ∧ s2 = 1 ∧ i = 2) ∧ es = rb acc ∧ n = acc.length ∧ vs = [.ptr 3 0] ∧
      K (.str acc) [.grow g s0 e0, .grow m s3 e3, .dead, .mem 113 [p, .sl 1 (rb acc) (some 2)]]
  | _ => False
end Go.Ai
namespace Go.Ai
end Go.Ai
namespace Go.Ai
end Go.Ai
namespace Go.Ai
def decRC : Con := fun vs h K => ∃ (s : List UInt8) (m : Int), s.length ≤ 100000 ∧ -9223372036854775808 ≤ m ∧ m ≤ 9223372036854775807 ∧ vs = [.str s, .int .i64 m] ∧
  K (.tup [.str (decA s m).body, .int .i64 (decA s m).used, .sl 2 (encFs (decA s m).tr) none, .int .i64 (decA s m).e]) h
end Go.Ai
end
section
namespace Go.Ai
open Go.RowKit
def clsB (s : List UInt8) : Bool := clS == lowS s || teS == lowS s
def delF (l : List Fld) : List Fld := l.filter fun f => !clsB f.name
def chkG : List Fld → Int
  | [] => 0
  | f :: r => if mayF f = false then 4 else if longF f = true then 3 else chkG r
def chkF (l : List Fld) : Int := if 64 < l.length then 3 else chkG l
def putL : List Fld → List UInt8
  | [] => []
  | f :: r => f.name ++ [58, 32] ++ f.value ++ crlf ++ putL r
def tellF (l : List Fld) : List UInt8 := if chkF l ≠ 0 then [] else putL l
def cLen : List UInt8 := [67, 111, 110, 116, 101, 110, 116, 45, 76, 101, 110, 103, 116, 104]
def lenF (n : Int) : Fld := ⟨cLen, itoaS n⟩
def outF (l : List Fld) (n : Int) : List Fld := if 0 ≤ n then delF l ++ [lenF n] else delF l
def headS (st : List UInt8) (l : List Fld) : List UInt8 := st ++ crlf ++ tellF l ++ crlf
def putM (st : List UInt8) (l : List Fld) (n : Int) (b : List UInt8) : List UInt8 × Int :=
  if chkF (outF l n) ≠ 0 then ([], chkF (outF l n)) else if 8192 < (headS st (outF l n)).length then ([], 3) else (headS st (outF l n) ++ b, 0)
def pst : List UInt8 := [80, 79, 83, 84]
def put' : List UInt8 := [80, 85, 84]
def pch : List UInt8 := [80, 65, 84, 67, 72]
def tellsL (m b : List UInt8) : Bool := b != [] || (m == pst || m == put' || m == pch)
structure Req where
  m : List UInt8
  t : List UInt8
  mi : Int
  fs : List Fld
  b : List UInt8
structure Rep where
  st : Int
  rs : List UInt8
  mi : Int
  fs : List Fld
  b : List UInt8
def noReq : Req := ⟨[], [], 0, [], []⟩
def noRep : Rep := ⟨0, [], 0, [], []⟩
def encReq (r : Req) (sz : Nat) : List AV := [.str r.m, .str r.t, .int .i64 r.mi, .sl sz (encFs r.fs) none, .str r.b]
def encRep (r : Rep) (sz : Nat) : List AV := [.int .i64 r.st, .str r.rs, .int .i64 r.mi, .sl sz (encFs r.fs) none, .str r.b]
def putReqM (r : Req) : List UInt8 × Int :=
  if (putReq r.m r.t r.mi).2 ≠ 0 then ([], (putReq r.m r.t r.mi).2) else if 65536 < r.b.length then ([], 3) else
  putM (putReq r.m r.t r.mi).1 r.fs (if tellsL r.m r.b = true then (r.b.length : Int) else -1) r.b
def putRepM (r : Rep) (hd : Bool) : List UInt8 × Int :=
  if (putSt r.st r.rs r.mi).2 ≠ 0 then ([], (putSt r.st r.rs r.mi).2) else if bareB r.st = true ∧ r.b ≠ [] then ([], 2) else if 262144 < r.b.length then ([], 3) else
  putM (putSt r.st r.rs r.mi).1 r.fs (if bareB r.st = true then -1 else (r.b.length : Int)) (if hd = true then [] else r.b)
structure HeadR where
  start : List UInt8
  lines : List UInt8
  n : Nat
  e : Int
def headM (s : List UInt8) : HeadR :=
  match fnd crlf2 (s.take 8192) with
  | some n => ⟨(cutS (s.take (n + 2)) crlf).1, (cutS (s.take (n + 2)) crlf).2.1, n + 4, 0⟩
  | none => ⟨[], [], 0, if 8192 ≤ s.length then 3 else 6⟩
def bodyM (k n : Int) (r : List UInt8) (most : Nat) : List UInt8 × Nat × Int :=
  if k = 1 then (if (r.length : Int) < n then ([], 0, 6) else (r.take n.toNat, n.toNat, 0))
  else if k = 2 then (if (decA r most).e ≠ 0 then ([], 0, (decA r most).e) else ((decA r most).body, (decA r most).used, 0))
  else if k = 3 then (if most < r.length then ([], 0, 3) else (r, r.length, 0))
  else ([], 0, 0)
def reqM (s : List UInt8) : Req × Nat × Int :=
  if (headM s).e ≠ 0 then (noReq, 0, (headM s).e) else
  if (reqP (headM s).start).2.2.2 ≠ 0 then (noReq, 0, (reqP (headM s).start).2.2.2) else
  if (parseF (headM s).lines).2 ≠ 0 then (noReq, 0, (parseF (headM s).lines).2) else
  if (asksF (parseF (headM s).lines).1).2.2 ≠ 0 then (noReq, 0, (asksF (parseF (headM s).lines).1).2.2) else
  if (bodyM (asksF (parseF (headM s).lines).1).1 (asksF (parseF (headM s).lines).1).2.1 (s.drop (headM s).n) 65536).2.2 ≠ 0 then (noReq, 0, (bodyM (asksF (parseF (headM s).lines).1).1 (asksF (parseF (headM s).lines).1).2.1 (s.drop (headM s).n) 65536).2.2) else
  (⟨(reqP (headM s).start).1, (reqP (headM s).start).2.1, (reqP (headM s).start).2.2.1, (parseF (headM s).lines).1, (bodyM (asksF (parseF (headM s).lines).1).1 (asksF (parseF (headM s).lines).1).2.1 (s.drop (headM s).n) 65536).1⟩,
    (headM s).n + (bodyM (asksF (parseF (headM s).lines).1).1 (asksF (parseF (headM s).lines).1).2.1 (s.drop (headM s).n) 65536).2.1, 0)
def repM (s : List UInt8) (hd : Bool) : Rep × Nat × Int :=
  if (headM s).e ≠ 0 then (noRep, 0, (headM s).e) else
  if (stP (headM s).start).2.2.2 ≠ 0 then (noRep, 0, (stP (headM s).start).2.2.2) else
  if (parseF (headM s).lines).2 ≠ 0 then (noRep, 0, (parseF (headM s).lines).2) else
  if (tellsF (parseF (headM s).lines).1 (stP (headM s).start).1 hd).2.2 ≠ 0 then (noRep, 0, (tellsF (parseF (headM s).lines).1 (stP (headM s).start).1 hd).2.2) else
  if (bodyM (tellsF (parseF (headM s).lines).1 (stP (headM s).start).1 hd).1 (tellsF (parseF (headM s).lines).1 (stP (headM s).start).1 hd).2.1 (s.drop (headM s).n) 262144).2.2 ≠ 0 then
    (noRep, 0, (bodyM (tellsF (parseF (headM s).lines).1 (stP (headM s).start).1 hd).1 (tellsF (parseF (headM s).lines).1 (stP (headM s).start).1 hd).2.1 (s.drop (headM s).n) 262144).2.2) else
  (⟨(stP (headM s).start).1, (stP (headM s).start).2.1, (stP (headM s).start).2.2.1, (parseF (headM s).lines).1, (bodyM (tellsF (parseF (headM s).lines).1 (stP (headM s).start).1 hd).1 (tellsF (parseF (headM s).lines).1 (stP (headM s).start).1 hd).2.1 (s.drop (headM s).n) 262144).1⟩,
    (headM s).n + (bodyM (tellsF (parseF (headM s).lines).1 (stP (headM s).start).1 hd).1 (tellsF (parseF (headM s).lines).1 (stP (headM s).start).1 hd).2.1 (s.drop (headM s).n) 262144).2.1, 0)
def ixG (s : List UInt8) : Nat → List (List UInt8) → Int
  | _, [] => -1
  | k, x :: r => if (s == x) = true then (k : Int) else ixG s (k + 1) r
def nmsE : List (List AV) := [[.str clS], [.str teS]]
def ixSlC : Con := fun vs h K => ∃ (l : List (List UInt8)) (s : List UInt8) (sz : Nat), l.length ≤ 100 ∧ szOk sz 1 l.length ∧ vs = [.sl sz (encS l) none, .str s] ∧ K (.int .i64 (ixG s 0 l)) h
def inSlC : Con := fun vs h K => ∃ (l : List (List UInt8)) (s : List UInt8) (sz : Nat), l.length ≤ 100 ∧ szOk sz 1 l.length ∧ vs = [.sl sz (encS l) none, .str s] ∧ K (.bool (l.contains s)) h
def bareC : Con := fun vs h K => ∃ st : Int, -9223372036854775808 ≤ st ∧ st ≤ 9223372036854775807 ∧ vs = [.int .i64 st] ∧ K (.bool (bareB st)) h
def okPs (l : List Fld) : Prop := l.length ≤ 100000 ∧ ∀ f ∈ l, f.name.length ≤ 20000 ∧ f.value.length ≤ 20000
def chkC : Con := fun vs h K => ∃ (l : List Fld) (sz : Nat), okPs l ∧ szOk sz 2 l.length ∧ vs = [.sl sz (encFs l) none] ∧ K (.int .i64 (chkF l)) h
def tellFC2 : Con := fun vs h K => ∃ (l : List Fld) (sz : Nat), okPs l ∧ szOk sz 2 l.length ∧ vs = [.sl sz (encFs l) none] ∧ K (.str (tellF l)) h
def hasC : Con := fun vs h K => ∃ s : List UInt8, s.length ≤ 20000 ∧ vs = [.sl 1 nmsE none, .str s] ∧ K (.bool (clsB s)) h
def d6 (g0 g2 g3 : Nat) (a b c d : List UInt8) : Hp := [.grow g0 1 9, .mem 51 [.sl 1 nmsE (some 0)], .grow g2 2 63, .grow g3 2 63, .mem 63 [.str a, .str b], .mem 63 [.str c, .str d]]
def d5 (g0 g2 g3 : Nat) (a b : List UInt8) : Hp := [.grow g0 1 9, .mem 51 [.sl 1 nmsE (some 0)], .grow g2 2 63, .grow g3 2 63, .mem 63 [.str a, .str b]]
def nm1C : Con := fun vs h K => ∃ (g0 g2 g3 : Nat) (a b c d s : List UInt8), h = d6 g0 g2 g3 a b c d ∧ s.length ≤ 20000 ∧ c.length ≤ 20000 ∧ vs = [.str s, .ptr 5 0] ∧ K (.bool (lowS s == lowS c)) (d6 g0 g2 g3 a b c d)
def nmIC : Con := fun vs h K => ∃ (g0 g2 g3 : Nat) (a b c d : List UInt8), h = d6 g0 g2 g3 a b c d ∧ c.length ≤ 20000 ∧ vs = [.sl 1 nmsE (some 0), .fn (.func 104) [] [.ptr 5 0]] ∧ K (.int .i64 (if (clS == lowS c) = true then 0 else if (teS == lowS c) = true then 1 else -1)) (d6 g0 g2 g3 a b c d)
def nmBC : Con := fun vs h K => ∃ (g0 g2 g3 : Nat) (a b c d : List UInt8), h = d6 g0 g2 g3 a b c d ∧ c.length ≤ 20000 ∧ vs = [.sl 1 nmsE (some 0), .fn (.func 104) [] [.ptr 5 0]] ∧ K (.bool (clsB c)) (d6 g0 g2 g3 a b c d)
def nm2C : Con := fun vs h K => ∃ (g0 g2 g3 : Nat) (a b c d : List UInt8), h = d5 g0 g2 g3 a b ∧ c.length ≤ 20000 ∧ vs = [.agg [.str c, .str d], .ptr 1 0] ∧ K (.bool (!clsB c)) (d5 g0 g2 g3 a b)
def keptC : Con := fun vs h K => ∃ (g0 g2 sz : Nat) (l : List Fld), h = [.grow g0 1 9, .mem 51 [.sl 1 nmsE (some 0)], .grow g2 2 63] ∧ okPs l ∧ szOk sz 2 l.length ∧ vs = [.sl sz (encFs l) none, .fn (.func 102) [] [.ptr 1 0]] ∧
  K (.sl 2 (encFs (delF l)) (some 3)) [.grow g0 1 9, .mem 51 [.sl 1 nmsE (some 0)], .grow g2 2 63, .grow (delF l).length 2 63]
def delC : Con := fun vs h K => ∃ (g0 sz : Nat) (l : List Fld), h = [.grow g0 1 9] ∧ okPs l ∧ szOk sz 2 l.length ∧ vs = [.sl sz (encFs l) none, .sl 1 nmsE (some 0)] ∧
  K (.sl 2 (encFs (delF l)) (some 3)) [.grow g0 1 9, .mem 51 [.sl 1 nmsE (some 0)], .grow 0 2 63, .grow (delF l).length 2 63]
def delRC : Con := fun vs h K => ∃ (g0 sz : Nat) (l : List Fld), h = [.grow g0 1 9] ∧ okPs l ∧ szOk sz 2 l.length ∧ vs = [.sl sz (encFs l) none, .sl 1 nmsE (some 0)] ∧
  K (.sl 2 (encFs (delF l)) (some 2)) [.grow g0 1 9, .grow 0 2 63, .grow (delF l).length 2 63]
def itoC : Con := fun vs h K => ∃ n : Int, 0 ≤ n ∧ n ≤ 1000000 ∧ vs = [.int .i64 n] ∧ K (.str (itoaS n)) h
def ofIC : Con := fun vs h K => ∃ n : Int, 0 ≤ n ∧ n ≤ 1000000 ∧ vs = [.int .i64 n] ∧ K (.int .i64 n) h
def putMC : Con := fun vs h K => ∃ (st b : List UInt8) (l : List Fld) (n : Int) (sz : Nat), okPs l ∧ l.length ≤ 99999 ∧ szOk sz 2 l.length ∧ st.length ≤ 10000 ∧ b.length ≤ 1000000 ∧ -1 ≤ n ∧ n ≤ 1000000 ∧ vs = [.str st, .sl sz (encFs l) none, .int .i64 n, .str b] ∧
  K (.tup [.str (putM st l n b).1, .int .i64 (putM st l n b).2]) h
def putMRC : Con := fun vs h K => ∃ (st : List UInt8) (l : List Fld) (n : Int) (sz : Nat) (t : Bool), okPs l ∧ l.length ≤ 99999 ∧ szOk sz 2 l.length ∧ st.length ≤ 10000 ∧ 0 ≤ n ∧ n ≤ 1000000 ∧ vs = [.str st, .sl sz (encFs l) none, .int .i64 n, .bool t] ∧
  K (.tup [.str (putM st l (if t = true then n else -1) []).1, .int .i64 (putM st l (if t = true then n else -1) []).2]) h
def okReq (r : Req) : Prop := okPs r.fs ∧ r.fs.length ≤ 99999 ∧ r.m.length ≤ 10000 ∧ r.t.length ≤ 10000 ∧ r.b.length ≤ 1000000 ∧ -9223372036854775808 ≤ r.mi ∧ r.mi ≤ 9223372036854775807
def okRep (r : Rep) : Prop := okPs r.fs ∧ r.fs.length ≤ 99999 ∧ r.rs.length ≤ 10000 ∧ r.b.length ≤ 1000000 ∧ (-9223372036854775808 ≤ r.st ∧ r.st ≤ 9223372036854775807) ∧ -9223372036854775808 ≤ r.mi ∧ r.mi ≤ 9223372036854775807
def putReqMC : Con := fun vs h K => ∃ (r : Req) (sz : Nat), okReq r ∧ szOk sz 2 r.fs.length ∧ vs = [.agg (encReq r sz)] ∧ K (.tup [.str (putReqM r).1, .int .i64 (putReqM r).2]) h
def putRepMC : Con := fun vs h K => ∃ (r : Rep) (sz : Nat) (hd : Bool), okRep r ∧ szOk sz 2 r.fs.length ∧ vs = [.agg (encRep r sz), .bool hd] ∧ K (.tup [.str (putRepM r hd).1, .int .i64 (putRepM r hd).2]) h
def copyB : Con := fun vs h K => match h with
  | [.grow n s1 e1, .mem t [p, .sl s2 es (some i)], .mem t2 [.str a, .str b]] => ∃ acc : List UInt8, (s1 = 1 ∧ e1 = 5 ∧ t = 113 ∧ s2 = 1 ∧ i = 0 ∧ t2 = 63) ∧ (p = .nilp ∨ p = .ptr 1 0) ∧ es = rb acc ∧ vs = [.ptr 1 0] ∧ K (.tup []) [.grow n 1 5, .mem 113 [.ptr 1 0, .sl 1 (rb acc) (some 0)], .mem 63 [.str a, .str b]]
  | _ => False
def writeB : Con := fun vs h K => match h with
  | [.grow n s1 e1, .mem t [p, .sl s2 es (some i)], .mem t2 [.str a, .str b]] => ∃ acc x : List UInt8, (s1 = 1 ∧ e1 = 5 ∧ t = 113 ∧ s2 = 1 ∧ i = 0 ∧ t2 = 63) ∧ (p = .nilp ∨ p = .ptr 1 0) ∧ es = rb acc ∧ n = acc.length ∧ acc.length + x.length ≤ 10000000000 ∧ vs = [.ptr 1 0, .str x] ∧
      K (.tup [.int .i64 ((x.length : Nat) : Int), .nili]) [.grow (acc ++ x).length 1 5, .mem 113 [.ptr 1 0, .sl 1 (rb (acc ++ x)) (some 0)], .mem 63 [.str a, .str b]]
  | _ => False
def strB : Con := fun vs h K => match h with
  | [.grow n s1 e1, .mem t [p, .sl s2 es (some i)]] => ∃ acc : List UInt8, (s1 = 1 ∧ e1 = 5 ∧ t = 113 ∧ s2 = 1 ∧ i = 0) ∧ es = rb acc ∧ n = acc.length ∧ vs = [.ptr 1 0] ∧ K (.str acc) [.dead, .mem 113 [p, .sl 1 (rb acc) (some 0)]]
  | _ => False
end Go.Ai
end
section
namespace Go.Ai
open Go.RowKit
theorem cutS_fnd' (s x : List UInt8) : cutS s x = match fnd x s with | some n => (s.take n, s.drop (n + x.length), true) | none => (s, [], false) := by
  unfold cutS; rw [idxB_fnd]
  cases fnd x s with
  | none => rfl
  | some n =>
    simp only [Nat.zero_add]
    rw [decide_eq_true (by omega)]
    simp
def noCr (s : List UInt8) : Prop := ∀ c ∈ s, c ≠ 13
theorem fnd_skip {x : List UInt8} (hx : ∃ y, x = 13 :: y) : ∀ {a r : List UInt8} {n : Nat}, noCr a → fnd x r = some n → fnd x (a ++ r) = some (a.length + n)
  | [], r, n, _, h => by simpa using h
  | c :: a, r, n, ha, h => by
    obtain ⟨y, rfl⟩ := hx
    have h1 := fnd_skip ⟨y, rfl⟩ (fun d hd => ha d (by simp [hd])) h (a := a)
    have hc : (13 :: y).isPrefixOf (c :: (a ++ r)) = false := by
      have := ha c (by simp)
      have e : ((13 : UInt8) == c) = false := by simpa using fun e => this e.symm
      simp [List.isPrefixOf, e]
    simp only [List.cons_append, fnd, hc, h1, Bool.false_eq_true, if_false, Option.map_some, List.length_cons]
    congr 1; omega
theorem fnd_end {o : List Fld} (y : List UInt8) (ho : ∀ f ∈ o, f.name ≠ [] ∧ noCr f.name ∧ noCr f.value) : fnd crlf2 (crlf ++ (putL o ++ (crlf ++ y))) = some (putL o).length := by
  induction o with
  | nil => simp [putL, crlf, crlf2, fnd, List.isPrefixOf]
  | cons f r ih =>
    have ih := ih fun g hg => ho g (by simp [hg])
    obtain ⟨h1, h2, h3⟩ := ho f (by simp)
    have hn : noCr (f.name ++ [58, 32] ++ f.value) := fun c hc => by
      simp only [List.mem_append, List.mem_cons, List.not_mem_nil, or_false] at hc
      rcases hc with (hc | rfl | rfl) | hc
      · exact h2 c hc
      · decide
      · decide
      · exact h3 c hc
    have ih2 := fnd_skip (x := crlf2) ⟨_, rfl⟩ hn ih
    have e : putL (f :: r) ++ (crlf ++ y) = (f.name ++ [58, 32] ++ f.value) ++ (crlf ++ (putL r ++ (crlf ++ y))) := by simp [putL]
    rw [e]
    obtain ⟨c, m, hm⟩ : ∃ c m, f.name = c :: m := by
      cases hf : f.name with
      | nil => exact absurd hf h1
      | cons c m => exact ⟨c, m, rfl⟩
    have hc : c ≠ 13 := h2 c (by simp [hm])
    have ec : ((13 : UInt8) == c) = false := by simpa using fun e => hc e.symm
    generalize hz : (f.name ++ [58, 32] ++ f.value) ++ (crlf ++ (putL r ++ (crlf ++ y))) = z at ih2
    obtain ⟨z', rfl⟩ : ∃ z', z = c :: z' := ⟨_, by rw [← hz, hm]; rfl⟩
    have e1 : fnd crlf2 (crlf ++ (c :: z')) = ((fnd crlf2 (c :: z')).map (· + 1)).map (· + 1) := by
      have k1 : crlf2.isPrefixOf (13 :: 10 :: c :: z') = false := by simp [crlf2, List.isPrefixOf, ec]
      have k2 : crlf2.isPrefixOf (10 :: c :: z') = false := by simp [crlf2, List.isPrefixOf]
      show fnd crlf2 (13 :: 10 :: c :: z') = _
      rw [fnd, k1, if_neg (by simp), fnd, k2, if_neg (by simp)]
    rw [e1, ih2]; simp only [Option.map_some, putL, List.length_append]
    congr 1
    simp [crlf]; omega
theorem headM_at {st : List UInt8} {o : List Fld} (y : List UInt8) (hs : noCr st) (ho : ∀ f ∈ o, f.name ≠ [] ∧ noCr f.name ∧ noCr f.value) (hl : (st ++ crlf ++ putL o ++ crlf).length ≤ 8192) :
    headM (st ++ crlf ++ putL o ++ crlf ++ y) = ⟨st, putL o, (st ++ crlf ++ putL o ++ crlf).length, 0⟩ := by
  have e : st ++ crlf ++ putL o ++ crlf ++ y = st ++ (crlf ++ (putL o ++ (crlf ++ y))) := by simp
  have h1 : fnd crlf2 (st ++ crlf ++ putL o ++ crlf ++ y) = some (st.length + (putL o).length) := by
    rw [e]; exact fnd_skip ⟨_, rfl⟩ hs (fnd_end y ho)
  simp only [List.length_append, crlf, List.length_cons, List.length_nil] at hl
  have h2 := fnd_take (p := 8192) h1 (by simp [crlf2]; omega) (by simp [crlf2])
  have h3 : (st ++ crlf ++ putL o ++ crlf ++ y).take (st.length + (putL o).length + 2) = st ++ (crlf ++ putL o) := by
    have e2 : st ++ crlf ++ putL o ++ crlf ++ y = (st ++ (crlf ++ putL o)) ++ (crlf ++ y) := by simp
    rw [e2, List.take_append_of_le_length (by simp [crlf]; omega), List.take_of_length_le (by simp [crlf]; omega)]
  have h4 : fnd crlf (st ++ (crlf ++ putL o)) = some st.length := fnd_crlf _ _ hs; unfold headM; rw [h2]; simp only [h3, cutS_fnd', h4, List.take_left', List.drop_left']; simp only [HeadR.mk.injEq, and_true]
  refine ⟨by simp, ?_, by simp [crlf]; omega⟩
  rw [← List.append_assoc, List.drop_left' (by simp)]
def okL (o : List Fld) : Prop := ∀ f ∈ o, mayF f = true ∧ longF f = false
theorem word_no {c : UInt8} (h : wordB c = true) : c ≠ 13 ∧ c ≠ 58 := by
  constructor <;> rintro rfl <;> revert h <;> decide
theorem val_no {c : UInt8} (h : valC c = true) : c ≠ 13 := by rintro rfl; revert h; decide
theorem mayF_ok {f : Fld} (h : mayF f = true) : f.name ≠ [] ∧ noCr f.name ∧ noCr f.value ∧ (∀ c ∈ f.name, c ≠ 58) ∧ trB f.value = f.value := by
  simp only [mayF, tokS, valS, tokenB, Bool.and_eq_true, List.all_eq_true, beq_iff_eq, Bool.not_eq_true', List.isEmpty_eq_false_iff] at h; obtain ⟨⟨h1, h2⟩, h3, h4⟩ := h
  exact ⟨h2, fun c hc => (word_no (h1 c hc)).1, fun c hc => val_no (h3 c hc), fun c hc => (word_no (h1 c hc)).2, h4⟩
theorem okL_head {o : List Fld} (h : okL o) : ∀ f ∈ o, f.name ≠ [] ∧ noCr f.name ∧ noCr f.value := fun f hf => by
  obtain ⟨h1, h2, h3, -, -⟩ := mayF_ok (h f hf).1; exact ⟨h1, h2, h3⟩
theorem putM_err {st b : List UInt8} {l : List Fld} {n : Int} (h : (putM st l n b).2 ≠ 0) : (putM st l n b).1 = [] := by
  unfold putM at h ⊢; split
  · rfl
  · rename_i h1; rw [if_neg h1] at h; split
    · rfl
    · rename_i h2; rw [if_neg h2] at h; exact absurd rfl h
structure HeadIs (s st : List UInt8) (o : List Fld) (b : List UInt8) : Prop where
  eq : s = st ++ crlf ++ putL o ++ crlf ++ b
  cr : noCr st
  ok : okL o
  len : o.length ≤ 64
  short : (st ++ crlf ++ putL o ++ crlf).length ≤ 8192
theorem putReqM_err {r : Req} (h : (putReqM r).2 ≠ 0) : (putReqM r).1 = [] := by
  unfold putReqM at h ⊢; split
  · rfl
  · rename_i h1; rw [if_neg h1] at h; split
    · rfl
    · rename_i h2; rw [if_neg h2] at h; exact putM_err h
theorem putRepM_err {q : Rep} {hd : Bool} (h : (putRepM q hd).2 ≠ 0) : (putRepM q hd).1 = [] := by
  unfold putRepM at h ⊢; split
  · rfl
  · rename_i h1; rw [if_neg h1] at h; split
    · rfl
    · rename_i h0; rw [if_neg h0] at h; split
      · rfl
      · rename_i h2; rw [if_neg h2] at h; exact putM_err h
theorem HeadIs.head {s st b : List UInt8} {o : List Fld} (h : HeadIs s st o b) (y : List UInt8) : headM (st ++ crlf ++ putL o ++ crlf ++ y) = ⟨st, putL o, (st ++ crlf ++ putL o ++ crlf).length, 0⟩ :=
  headM_at y h.cr (okL_head h.ok) h.short
end Go.Ai
end
section
namespace Go.Ai
open Go.RowKit
def hQ (s st rs : List UInt8) (ls : AV) (lg : Int) (m t : List UInt8) (mi : Int) (bd ln : List UInt8) (k n us : Int) : Hp :=
  [.mem 9 [.str s], .grow 0 2 63, .mem 25 [.str [], .str [], .int .i64 0, .sl 2 [] (some 1), .str []], .grow 0 2 63, .grow 0 2 63,
    .mem 67 [.str st, .str rs, ls, .int .i64 lg, .str m, .str t, .int .i64 mi, .sl 2 [] (some 4), .str bd], .mem 9 [.str ln], .mem 69 [.int .i64 k, .int .i64 n], .mem 3 [.int .i64 us], .grow 5 1 72]
def hP (s : List UInt8) (hd : Bool) (st rs : List UInt8) (ls : AV) (lg c : Int) (w : List UInt8) (mi : Int) (bd ln : List UInt8) (k n us : Int) : Hp :=
  [.mem 9 [.str s], .mem 4 [.bool hd], .grow 0 2 63, .mem 32 [.int .i64 0, .str [], .int .i64 0, .sl 2 [] (some 2), .str []], .grow 0 2 63, .grow 0 2 63,
    .mem 90 [.str st, .str rs, ls, .int .i64 lg, .int .i64 c, .str w, .int .i64 mi, .sl 2 [] (some 5), .str bd], .mem 9 [.str ln], .mem 69 [.int .i64 k, .int .i64 n], .mem 3 [.int .i64 us], .grow 5 1 72]
def cutQC : Con := fun vs h K => ∃ s : List UInt8, h = hQ s [] [] (.sl 2 [] (some 3)) 0 [] [] 0 [] [] 0 0 0 ∧ s.length ≤ lim ∧ vs = [.ptr 5 0, .str s] ∧
  ifP ((headM s).e != 0) (K (.tup [.str [], .int .i64 (headM s).e]) (hQ s [] [] (.sl 2 [] (some 3)) 0 [] [] 0 [] [] 0 0 0))
    (K (.tup [.str (headM s).lines, .int .i64 0]) (hQ s (headM s).start (s.drop (headM s).n) (.sl 2 [] (some 3)) (headM s).n [] [] 0 [] [] 0 0 0))
def q1C : Con := fun vs h K => ∃ s : List UInt8, h = hQ s [] [] (.sl 2 [] (some 3)) 0 [] [] 0 [] [] 0 0 0 ∧ s.length ≤ lim ∧ vs = [.ptr 5 0, .ptr 0 0, .ptr 6 0] ∧
  ifP ((headM s).e != 0) (K (.int .i64 (headM s).e) (hQ s [] [] (.sl 2 [] (some 3)) 0 [] [] 0 [] [] 0 0 0))
    (K (.int .i64 0) (hQ s (headM s).start (s.drop (headM s).n) (.sl 2 [] (some 3)) (headM s).n [] [] 0 [] (headM s).lines 0 0 0))
def q2C : Con := fun vs h K => ∃ (s st rs ln : List UInt8) (lg : Int), h = hQ s st rs (.sl 2 [] (some 3)) lg [] [] 0 [] ln 0 0 0 ∧ st.length ≤ 100000 ∧ vs = [.ptr 5 0] ∧
  K (.int .i64 (reqP st).2.2.2) (hQ s st rs (.sl 2 [] (some 3)) lg (reqP st).1 (reqP st).2.1 (reqP st).2.2.1 [] ln 0 0 0)
def fillQC : Con := fun vs h K => ∃ (s st rs m t ln : List UInt8) (lg mi : Int), h = hQ s st rs (.sl 2 [] (some 3)) lg m t mi [] ln 0 0 0 ∧ ln.length ≤ 100000 ∧ vs = [.ptr 5 0, .str ln] ∧
  K (.int .i64 (parseF ln).2) (hQ s st rs (.sl 2 (encFs (parseF ln).1) none) lg m t mi [] ln 0 0 0)
def q3C : Con := fun vs h K => ∃ (s st rs m t ln : List UInt8) (lg mi : Int), h = hQ s st rs (.sl 2 [] (some 3)) lg m t mi [] ln 0 0 0 ∧ ln.length ≤ 100000 ∧ vs = [.ptr 5 0, .ptr 6 0] ∧
  K (.int .i64 (parseF ln).2) (hQ s st rs (.sl 2 (encFs (parseF ln).1) none) lg m t mi [] ln 0 0 0)
def q4C : Con := fun vs h K => ∃ (s st rs m t ln : List UInt8) (lg mi : Int) (l : List Fld), h = hQ s st rs (.sl 2 (encFs l) none) lg m t mi [] ln 0 0 0 ∧ okFs l ∧ vs = [.ptr 5 0, .ptr 7 0] ∧
  K (.int .i64 (asksF l).2.2) (hQ s st rs (.sl 2 (encFs l) none) lg m t mi [] ln (asksF l).1 (asksF l).2.1 0)
def bodyQC : Con := fun vs h K => ∃ (s st rs m t ln : List UInt8) (lg mi k n : Int) (l : List Fld) (most : Nat), h = hQ s st rs (.sl 2 (encFs l) none) lg m t mi [] ln k n 0 ∧ rs.length ≤ lim ∧ most ≤ 1000000 ∧ 0 ≤ n ∧ n ≤ 1000000000000000000 ∧ 0 ≤ lg ∧ lg ≤ 10000 ∧ vs = [.ptr 5 0, .agg [.int .i64 k, .int .i64 n], .int .i64 most] ∧
  K (.tup [.str (bodyM k n rs most).1, .int .i64 (if (bodyM k n rs most).2.2 = 0 then lg + ((bodyM k n rs most).2.1 : Nat) else 0), .int .i64 (bodyM k n rs most).2.2]) (hQ s st rs (.sl 2 (encFs l) none) lg m t mi [] ln k n 0)
def q5C : Con := fun vs h K => ∃ (s st rs m t ln : List UInt8) (lg mi k n : Int) (l : List Fld), h = hQ s st rs (.sl 2 (encFs l) none) lg m t mi [] ln k n 0 ∧ rs.length ≤ lim ∧ 0 ≤ n ∧ n ≤ 1000000000000000000 ∧ 0 ≤ lg ∧ lg ≤ 10000 ∧ vs = [.ptr 5 0, .ptr 7 0, .ptr 8 0] ∧
  K (.int .i64 (bodyM k n rs 65536).2.2) (hQ s st rs (.sl 2 (encFs l) none) lg m t mi (bodyM k n rs 65536).1 ln k n (if (bodyM k n rs 65536).2.2 = 0 then lg + ((bodyM k n rs 65536).2.1 : Nat) else 0))
def stepsQ : List (List AV) := [[.fn (.func 28) [] [.ptr 5 0, .ptr 0 0, .ptr 6 0]], [.fn (.func 30) [] [.ptr 5 0]], [.fn (.func 32) [] [.ptr 5 0, .ptr 6 0]], [.fn (.func 34) [] [.ptr 5 0, .ptr 7 0]], [.fn (.func 36) [] [.ptr 5 0, .ptr 7 0, .ptr 8 0]]]
def firstQC : Con := fun vs h K => ∃ s : List UInt8, h = hQ s [] [] (.sl 2 [] (some 3)) 0 [] [] 0 [] [] 0 0 0 ∧ s.length ≤ lim ∧ vs = [.sl 1 stepsQ (some 9)] ∧
  ifP ((headM s).e != 0) (K (.int .i64 (headM s).e) (hQ s [] [] (.sl 2 [] (some 3)) 0 [] [] 0 [] [] 0 0 0))
  (∃ (st rs m t ln bd : List UInt8) (lg mi e2 e3 e4 k n e5 us : Int) (l : List Fld), (st = (headM s).start ∧ rs = s.drop (headM s).n ∧ ln = (headM s).lines ∧ lg = (headM s).n ∧ (m, t, mi, e2) = reqP st ∧ (l, e3) = parseF ln ∧ (k, n, e4) = asksF l ∧ bd = (bodyM k n rs 65536).1 ∧ e5 = (bodyM k n rs 65536).2.2 ∧ us = (if e5 = 0 then lg + ((bodyM k n rs 65536).2.1 : Nat) else 0)) ∧
    ifP (e2 != 0) (K (.int .i64 e2) (hQ s st rs (.sl 2 [] (some 3)) lg m t mi [] ln 0 0 0))
    (ifP (e3 != 0) (K (.int .i64 e3) (hQ s st rs (.sl 2 (encFs l) none) lg m t mi [] ln 0 0 0))
    (ifP (e4 != 0) (K (.int .i64 e4) (hQ s st rs (.sl 2 (encFs l) none) lg m t mi [] ln k n 0))
    (ifP (e5 != 0) (K (.int .i64 e5) (hQ s st rs (.sl 2 (encFs l) none) lg m t mi bd ln k n us))
      (K (.int .i64 0) (hQ s st rs (.sl 2 (encFs l) none) lg m t mi bd ln k n us))))))
def cutPC2 : Con := fun vs h K => ∃ (s : List UInt8) (hd : Bool), h = hP s hd [] [] (.sl 2 [] (some 4)) 0 0 [] 0 [] [] 0 0 0 ∧ s.length ≤ lim ∧ vs = [.ptr 6 0, .str s] ∧
  ifP ((headM s).e != 0) (K (.tup [.str [], .int .i64 (headM s).e]) (hP s hd [] [] (.sl 2 [] (some 4)) 0 0 [] 0 [] [] 0 0 0))
    (K (.tup [.str (headM s).lines, .int .i64 0]) (hP s hd (headM s).start (s.drop (headM s).n) (.sl 2 [] (some 4)) (headM s).n 0 [] 0 [] [] 0 0 0))
def p1C : Con := fun vs h K => ∃ (s : List UInt8) (hd : Bool), h = hP s hd [] [] (.sl 2 [] (some 4)) 0 0 [] 0 [] [] 0 0 0 ∧ s.length ≤ lim ∧ vs = [.ptr 6 0, .ptr 0 0, .ptr 7 0] ∧
  ifP ((headM s).e != 0) (K (.int .i64 (headM s).e) (hP s hd [] [] (.sl 2 [] (some 4)) 0 0 [] 0 [] [] 0 0 0))
    (K (.int .i64 0) (hP s hd (headM s).start (s.drop (headM s).n) (.sl 2 [] (some 4)) (headM s).n 0 [] 0 [] (headM s).lines 0 0 0))
def p2C : Con := fun vs h K => ∃ (s st rs ln : List UInt8) (hd : Bool) (lg : Int), h = hP s hd st rs (.sl 2 [] (some 4)) lg 0 [] 0 [] ln 0 0 0 ∧ st.length ≤ 100000 ∧ vs = [.ptr 6 0] ∧
  K (.int .i64 (stP st).2.2.2) (hP s hd st rs (.sl 2 [] (some 4)) lg (stP st).1 (stP st).2.1 (stP st).2.2.1 [] ln 0 0 0)
def fillPC : Con := fun vs h K => ∃ (s st rs w ln : List UInt8) (hd : Bool) (lg c mi : Int), h = hP s hd st rs (.sl 2 [] (some 4)) lg c w mi [] ln 0 0 0 ∧ ln.length ≤ 100000 ∧ vs = [.ptr 6 0, .str ln] ∧
  K (.int .i64 (parseF ln).2) (hP s hd st rs (.sl 2 (encFs (parseF ln).1) none) lg c w mi [] ln 0 0 0)
def p3C : Con := fun vs h K => ∃ (s st rs w ln : List UInt8) (hd : Bool) (lg c mi : Int), h = hP s hd st rs (.sl 2 [] (some 4)) lg c w mi [] ln 0 0 0 ∧ ln.length ≤ 100000 ∧ vs = [.ptr 6 0, .ptr 7 0] ∧
  K (.int .i64 (parseF ln).2) (hP s hd st rs (.sl 2 (encFs (parseF ln).1) none) lg c w mi [] ln 0 0 0)
def p4C : Con := fun vs h K => ∃ (s st rs w ln : List UInt8) (hd : Bool) (lg c mi : Int) (l : List Fld), h = hP s hd st rs (.sl 2 (encFs l) none) lg c w mi [] ln 0 0 0 ∧ okFs l ∧ -9223372036854775808 ≤ c ∧ c ≤ 9223372036854775807 ∧ vs = [.ptr 6 0, .ptr 1 0, .ptr 8 0] ∧
  K (.int .i64 (tellsF l c hd).2.2) (hP s hd st rs (.sl 2 (encFs l) none) lg c w mi [] ln (tellsF l c hd).1 (tellsF l c hd).2.1 0)
def bodyPC : Con := fun vs h K => ∃ (s st rs w ln : List UInt8) (hd : Bool) (lg c mi k n : Int) (l : List Fld) (most : Nat), h = hP s hd st rs (.sl 2 (encFs l) none) lg c w mi [] ln k n 0 ∧ rs.length ≤ lim ∧ most ≤ 1000000 ∧ 0 ≤ n ∧ n ≤ 1000000000000000000 ∧ 0 ≤ lg ∧ lg ≤ 10000 ∧ vs = [.ptr 6 0, .agg [.int .i64 k, .int .i64 n], .int .i64 most] ∧
  K (.tup [.str (bodyM k n rs most).1, .int .i64 (if (bodyM k n rs most).2.2 = 0 then lg + ((bodyM k n rs most).2.1 : Nat) else 0), .int .i64 (bodyM k n rs most).2.2]) (hP s hd st rs (.sl 2 (encFs l) none) lg c w mi [] ln k n 0)
def p5C : Con := fun vs h K => ∃ (s st rs w ln : List UInt8) (hd : Bool) (lg c mi k n : Int) (l : List Fld), h = hP s hd st rs (.sl 2 (encFs l) none) lg c w mi [] ln k n 0 ∧ rs.length ≤ lim ∧ 0 ≤ n ∧ n ≤ 1000000000000000000 ∧ 0 ≤ lg ∧ lg ≤ 10000 ∧ vs = [.ptr 6 0, .ptr 8 0, .ptr 9 0] ∧
  K (.int .i64 (bodyM k n rs 262144).2.2) (hP s hd st rs (.sl 2 (encFs l) none) lg c w mi (bodyM k n rs 262144).1 ln k n (if (bodyM k n rs 262144).2.2 = 0 then lg + ((bodyM k n rs 262144).2.1 : Nat) else 0))
def stepsP : List (List AV) := [[.fn (.func 43) [] [.ptr 6 0, .ptr 0 0, .ptr 7 0]], [.fn (.func 44) [] [.ptr 6 0]], [.fn (.func 46) [] [.ptr 6 0, .ptr 7 0]], [.fn (.func 47) [] [.ptr 6 0, .ptr 1 0, .ptr 8 0]], [.fn (.func 49) [] [.ptr 6 0, .ptr 8 0, .ptr 9 0]]]
def firstPC : Con := fun vs h K => ∃ (s : List UInt8) (hd : Bool), h = hP s hd [] [] (.sl 2 [] (some 4)) 0 0 [] 0 [] [] 0 0 0 ∧ s.length ≤ lim ∧ vs = [.sl 1 stepsP (some 10)] ∧
  ifP ((headM s).e != 0) (K (.int .i64 (headM s).e) (hP s hd [] [] (.sl 2 [] (some 4)) 0 0 [] 0 [] [] 0 0 0))
  (∃ (st rs w ln bd : List UInt8) (lg c mi e2 e3 e4 k n e5 us : Int) (l : List Fld), (st = (headM s).start ∧ rs = s.drop (headM s).n ∧ ln = (headM s).lines ∧ lg = (headM s).n ∧ (c, w, mi, e2) = stP st ∧ (l, e3) = parseF ln ∧ (k, n, e4) = tellsF l c hd ∧ bd = (bodyM k n rs 262144).1 ∧ e5 = (bodyM k n rs 262144).2.2 ∧ us = (if e5 = 0 then lg + ((bodyM k n rs 262144).2.1 : Nat) else 0)) ∧
    ifP (e2 != 0) (K (.int .i64 e2) (hP s hd st rs (.sl 2 [] (some 4)) lg c w mi [] ln 0 0 0))
    (ifP (e3 != 0) (K (.int .i64 e3) (hP s hd st rs (.sl 2 (encFs l) none) lg c w mi [] ln 0 0 0))
    (ifP (e4 != 0) (K (.int .i64 e4) (hP s hd st rs (.sl 2 (encFs l) none) lg c w mi [] ln k n 0))
    (ifP (e5 != 0) (K (.int .i64 e5) (hP s hd st rs (.sl 2 (encFs l) none) lg c w mi bd ln k n us))
      (K (.int .i64 0) (hP s hd st rs (.sl 2 (encFs l) none) lg c w mi bd ln k n us))))))
def headRC : Con := fun vs h K => ∃ s : List UInt8, s.length ≤ lim ∧ vs = [.str s] ∧ K (.tup [.str (headM s).start, .str (headM s).lines, .int .i64 (headM s).n, .int .i64 (headM s).e]) h
def bodyRC : Con := fun vs h K => ∃ (rs : List UInt8) (k n : Int) (most : Nat), rs.length ≤ lim ∧ (k = 2 → rs.length ≤ 100000) ∧ most ≤ 1000000 ∧ 0 ≤ n ∧ n ≤ 1000000000000000000 ∧ vs = [.str rs, .agg [.int .i64 k, .int .i64 n], .int .i64 most] ∧
  K (.tup [.str (bodyM k n rs most).1, .int .i64 ((bodyM k n rs most).2.1 : Nat), .int .i64 (bodyM k n rs most).2.2]) h
def reqMC : Con := fun vs h K => ∃ s : List UInt8, s.length ≤ lim ∧ vs = [.str s] ∧ K (.tup [.agg (encReq (reqM s).1 2), .int .i64 ((reqM s).2.1 : Nat), .int .i64 (reqM s).2.2]) h
def repMC : Con := fun vs h K => ∃ (s : List UInt8) (hd : Bool), s.length ≤ lim ∧ vs = [.str s, .bool hd] ∧ K (.tup [.agg (encRep (repM s hd).1 2), .int .i64 ((repM s hd).2.1 : Nat), .int .i64 (repM s hd).2.2]) h
def okR (s : List UInt8) : Prop := s.length ≤ 100000 ∨ (asksF (parseF (headM s).lines).1).1 ≠ 2
def okT (s : List UInt8) (hd : Bool) : Prop := s.length ≤ 100000 ∨ (tellsF (parseF (headM s).lines).1 (stP (headM s).start).1 hd).1 ≠ 2
def reqRC : Con := fun vs h K => ∃ s : List UInt8, s.length ≤ lim ∧ okR s ∧ vs = [.str s] ∧ K (.tup [.agg (encReq (reqM s).1 2), .int .i64 ((reqM s).2.1 : Nat), .int .i64 (reqM s).2.2]) h
def repRC : Con := fun vs h K => ∃ (s : List UInt8) (hd : Bool), s.length ≤ lim ∧ okT s hd ∧ vs = [.str s, .bool hd] ∧ K (.tup [.agg (encRep (repM s hd).1 2), .int .i64 ((repM s hd).2.1 : Nat), .int .i64 (repM s hd).2.2]) h
end Go.Ai
end
section
namespace Go.Ai
open Go.RowKit
def sameReq (a b : Req) : Bool := a.m == b.m && (a.t == b.t && (a.mi == b.mi && (a.b == b.b && sameFs a.fs b.fs)))
def sameRep (a b : Rep) : Bool := a.st == b.st && (a.rs == b.rs && (a.mi == b.mi && (a.b == b.b && sameFs a.fs b.fs)))
def sameReqC : Con := fun vs h K => ∃ (a b : Req) (sz sy : Nat), a.fs.length ≤ lim ∧ szOk sz 2 a.fs.length ∧ szOk sy 2 b.fs.length ∧ vs = [.agg (encReq a sz), .agg (encReq b sy)] ∧ K (.bool (sameReq a b)) h
def sameRepC : Con := fun vs h K => ∃ (a b : Rep) (sz sy : Nat), a.fs.length ≤ lim ∧ szOk sz 2 a.fs.length ∧ szOk sy 2 b.fs.length ∧ vs = [.agg (encRep a sz), .agg (encRep b sy)] ∧ K (.bool (sameRep a b)) h
def lnS (s : List UInt8) : List UInt8 := replS s [32, 47, 32] [13, 10]
def okLn (s : List UInt8) : Bool := Nat.blt s.length 100000 && (Nat.ble (s.length + cntS s [32, 47, 32] * 2) 100000 && Nat.ble (lnS s).length 100000)
def linesC : Con := fun vs h K => ∃ s : List UInt8, okLn s = true ∧ vs = [.str s] ∧ K (.str (lnS s)) h
def asksB (s m t b : List UInt8) (u w : Int) : Bool :=
  (reqM (lnS s)).1.m == m && ((reqM (lnS s)).1.t == t && ((reqM (lnS s)).1.b == b && ((((reqM (lnS s)).2.1 : Nat) : Int) == u && (reqM (lnS s)).2.2 == w)))
def asksC : Con := fun vs h K => ∃ (s m t b : List UInt8) (u w : Int), okLn s = true ∧ vs = [.str s, .str m, .str t, .str b, .int .i64 u, .int .i64 w] ∧ K (.bool (asksB s m t b u w)) h
def readsC : Con := fun vs h K => ∃ s : List UInt8, s.length ≤ lim ∧ okR s ∧ okT s false ∧ vs = [.str s] ∧ K (.bool true) h
def replC : Con := fun vs h K => ∃ s o n : List UInt8, (Nat.blt s.length 4294967281 && Nat.ble 1 o.length && Nat.ble (s.length + cntS s o * n.length) 140737488355328) = true ∧ vs = [.str s, .str o, .str n] ∧ K (.str (replS s o n)) h
def readsLC : Con := fun vs h K => ∃ (s : List UInt8) (hd : Bool), vs = [.str s, .bool hd] ∧ K (.bool true) h
end Go.Ai
end
