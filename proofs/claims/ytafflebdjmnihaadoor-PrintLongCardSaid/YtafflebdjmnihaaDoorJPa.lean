/-
  Trees of nodes, in plain terms: what they are as abstract values, how many nodes, how deep, the same. No statement about the program is made here.
  Which trees are pages, in plain terms; contracts of the functions that look. No statement about the program is made here.
  Which trees are pages, in plain terms. No statement about the program is made here.
  Small laws on numbers and on trees. No statement about the program is made here.
-/
import Derived.Test.YtafflebdjmnihaaDoorAiMono
import Derived.Test.YtafflebdjmnihaaDoorCfg
section
namespace Go.Ai
open Go.RowKit

structure Att where
  name : List UInt8
  value : List UInt8
  pl : Int

inductive Nd where
  | mk (kind pl : Int) (text : List UInt8) (attrs : List Att) (kids : List Nd)
  deriving Inhabited

def Nd.kind : Nd → Int | .mk k _ _ _ _ => k
def Nd.pl : Nd → Int | .mk _ p _ _ _ => p
def Nd.text : Nd → List UInt8 | .mk _ _ t _ _ => t
def Nd.attrs : Nd → List Att | .mk _ _ _ a _ => a
def Nd.kids : Nd → List Nd | .mk _ _ _ _ l => l

def encA (a : Att) : List AV := [.str a.name, .str a.value, .int .i64 a.pl]
mutual
def encN : Nd → List AV
  | .mk k p t al ks => [.int .i64 k, .int .i64 p, .str t, .sl 3 (al.map encA) none, .sl 5 (encNs ks) none]
def encNs : List Nd → List (List AV)
  | [] => []
  | n :: r => encN n :: encNs r
end

theorem encNs_map : ∀ l : List Nd, encNs l = l.map encN
  | [] => rfl
  | n :: r => by rw [encNs, encNs_map r]; rfl

mutual
def Nd.size : Nd → Nat
  | .mk _ _ _ _ ks => 1 + sizes ks
def sizes : List Nd → Nat
  | [] => 0
  | n :: r => n.size + sizes r
end
mutual
def Nd.depth : Nd → Nat
  | .mk _ _ _ _ ks => depths ks
def depths : List Nd → Nat
  | [] => 0
  | n :: r => max (n.depth + if n.kind = 2 then 0 else 1) (depths r)
end

mutual
theorem pure_encN : ∀ n : Nd, pureV.pureVs (encN n) = true
  | .mk k p t al ks => by
    simp only [encN, pureV.pureVs, pureV, Option.isNone_none, Bool.true_and, Bool.and_true, Bool.and_eq_true]
    refine ⟨?_, pure_encNs ks⟩
    induction al with
    | nil => rfl
    | cons a r ih => simp only [List.map_cons, pureV.pureVss, encA, pureV.pureVs, pureV, ih, Bool.true_and]
theorem pure_encNs : ∀ l : List Nd, pureV.pureVss (encNs l) = true
  | [] => rfl
  | n :: r => by simp only [encNs, pureV.pureVss, pure_encN n, pure_encNs r, Bool.true_and]
end
theorem pure_encAs (l : List Att) : pureV.pureVss (l.map encA) = true := by
  induction l with
  | nil => rfl
  | cons a r ih => simp only [List.map_cons, pureV.pureVss, encA, pureV.pureVs, pureV, ih, Bool.true_and]

mutual
theorem low_pure (n : Nat) : ∀ v, pureV v = true → lowV n v = true
  | .top, _ => rfl
  | .bool _, _ => rfl
  | .int _ _, _ => rfl
  | .str _, _ => rfl
  | .nilp, _ => rfl
  | .ptr _ _, hp => by simp [pureV] at hp
  | .ro cs, hp => by rw [lowV]; exact lows_pure n cs (by simpa [pureV] using hp)
  | .sl sz es own, hp => by
    simp only [pureV, Bool.and_eq_true] at hp
    cases own with
    | none => simp only [lowV, lowss_pure n es hp.2, Bool.and_true]
    | some _ => simp at hp
  | .osl _ _ _ _, hp => by simp [pureV] at hp
  | .fn f a c, hp => by
    simp only [pureV, Bool.and_eq_true] at hp
    rw [lowV, lows_pure n a hp.1, lows_pure n c hp.2]; rfl
  | .nilf, _ => rfl
  | .dfr cs, hp => by first | (simp [pureV] at hp; done) | (rw [lowV]; exact lows_pure n cs (by simpa [pureV] using hp))
  | .iface t v, hp => by rw [lowV]; exact low_pure n v (by simpa [pureV] using hp)
  | .nili, _ => rfl
  | .agg cs, hp => by rw [lowV]; exact lows_pure n cs (by simpa [pureV] using hp)
  | .tup cs, hp => by rw [lowV]; exact lows_pure n cs (by simpa [pureV] using hp)
theorem lows_pure (n : Nat) : ∀ xs, pureV.pureVs xs = true → lowVs n xs = true
  | [], _ => rfl
  | x :: xs, hp => by
    simp only [pureV.pureVs, Bool.and_eq_true] at hp
    rw [lowVs, low_pure n x hp.1, lows_pure n xs hp.2]; rfl
theorem lowss_pure (n : Nat) : ∀ xs, pureV.pureVss xs = true → lowVss n xs = true
  | [], _ => rfl
  | x :: xs, hp => by
    simp only [pureV.pureVss, Bool.and_eq_true] at hp
    rw [lowVss, lows_pure n x hp.1, lowss_pure n xs hp.2]; rfl
end

theorem getE_map {α : Type} (f : α → List AV) (l : List α) {i : Nat} (h : i < l.length) : getE (l.map f) (i : Int) = f l[i] := by
  unfold getE
  simp [h]

def depthC (N : Nat) : Con := fun vs h K => ∃ nd : Nd, nd.size < N ∧ vs = [.agg (encN nd)] ∧ K (.int .i64 nd.depth) h

mutual
theorem Nd.depth_le : ∀ n : Nd, n.depth < n.size
  | .mk _ _ _ _ ks => by
    simp only [Nd.depth, Nd.size]
    have := depths_le ks
    omega
theorem depths_le : ∀ l : List Nd, depths l ≤ sizes l
  | [] => Nat.le_refl _
  | n :: r => by
    simp only [depths, sizes]
    have h1 := n.depth_le
    have h2 := depths_le r
    split <;> omega
end

theorem depths_text {n : Nd} (h : n.kind = 2) (r : List Nd) : depths (n :: r) = max n.depth (depths r) := by simp only [depths, h, if_true, Nat.add_zero]
theorem depths_other {n : Nd} (h : ¬n.kind = 2) (r : List Nd) : depths (n :: r) = max (n.depth + 1) (depths r) := by simp only [depths, h, if_false]

theorem sizes_append : ∀ a b : List Nd, sizes (a ++ b) = sizes a + sizes b
  | [], b => by simp [sizes]
  | n :: r, b => by simp only [List.cons_append, sizes, sizes_append r b]; omega
theorem sizes_mem {l : List Nd} {n : Nd} (h : n ∈ l) : n.size ≤ sizes l := by
  induction l with
  | nil => cases h
  | cons m r ih =>
    simp only [sizes]
    rcases List.mem_cons.1 h with rfl | h
    · omega
    · have := ih h; omega
theorem sizes_len : ∀ l : List Nd, l.length ≤ sizes l
  | [] => Nat.le_refl _
  | n :: r => by
    simp only [List.length_cons, sizes]
    have h1 := n.depth_le
    have h2 := sizes_len r
    omega
theorem getE_pre {α : Type} (f : α → List AV) (pre : List α) (x : α) (r : List α) : getE ((pre ++ x :: r).map f) (pre.length : Int) = f x := by
  unfold getE; simp
theorem getE_encNs (pre : List Nd) (x : Nd) (r : List Nd) : getE (encNs (pre ++ x :: r)) (pre.length : Int) = encN x := by
  rw [encNs_map]; exact getE_pre _ _ _ _
theorem encNs_length (l : List Nd) : (encNs l).length = l.length := by rw [encNs_map]; simp
theorem stripss_encAs (l : List Att) : stripss 0 [] (l.map encA) = l.map encA := stripss_pure _ _ _ (pure_encAs l)
theorem stripss_encNs (l : List Nd) : stripss 0 [] (encNs l) = encNs l := stripss_pure _ _ _ (pure_encNs l)
theorem low_encAs (n : Nat) (l : List Att) : lowVss n (l.map encA) = true := lowss_pure n _ (pure_encAs l)
theorem low_encNs (n : Nat) (l : List Nd) : lowVss n (encNs l) = true := lowss_pure n _ (pure_encNs l)

/-! Sizes that every tree of a world keeps to. -/
def lim : Nat := 9223372036854775807
def Att.fit (a : Att) : Prop := a.name.length ≤ lim ∧ a.value.length ≤ lim
mutual
def Nd.fit : Nd → Prop
  | .mk _ _ t al ks => t.length ≤ lim ∧ al.length ≤ lim ∧ (∀ a ∈ al, a.fit) ∧ ks.length ≤ lim ∧ fits ks
def fits : List Nd → Prop
  | [] => True
  | n :: r => n.fit ∧ fits r
end
theorem fits_mem : ∀ {l : List Nd}, fits l → ∀ n ∈ l, n.fit
  | [], _, n, hn => by cases hn
  | m :: r, h, n, hn => by
    rcases List.mem_cons.1 hn with rfl | hn
    · exact h.1
    · exact fits_mem h.2 n hn
theorem fits_append : ∀ {a b : List Nd}, fits (a ++ b) ↔ fits a ∧ fits b
  | [], b => by simp [fits]
  | n :: r, b => by simp only [List.cons_append, fits, fits_append (a := r), and_assoc]

/-! What is left of a number behind a tree. -/
def attG (a : Att) (l : Int) : Int := l - 1 - (a.name.length / 20 : Nat) - (a.value.length / 20 : Nat)
def attsG : List Att → Int → Int
  | [], l => l
  | a :: r, l => if 0 < l then attsG r (attG a l) else l
mutual
def Nd.left : Nd → Int → Int
  | .mk _ _ t al ks, l => lefts ks (attsG al (l - 1 - (t.length / 20 : Nat)))
def lefts : List Nd → Int → Int
  | [], l => l
  | n :: r, l => if 0 < l then lefts r (n.left l) else l
end
def low0 : Int := -2000000000000000000
theorem attG_low {a : Att} (h : a.fit) {l : Int} (hl : 0 < l) : low0 ≤ attG a l := by
  obtain ⟨h1, h2⟩ := h
  unfold attG low0
  unfold lim at h1 h2
  omega
theorem attG_le {a : Att} {l : Int} : attG a l ≤ l := by unfold attG; omega
theorem attsG_low : ∀ {al : List Att} {l : Int}, (∀ a ∈ al, a.fit) → low0 ≤ l → low0 ≤ attsG al l
  | [], l, _, hl => hl
  | a :: r, l, h, hl => by
    rw [attsG]
    split
    · exact attsG_low (fun b hb => h b (by simp [hb])) (attG_low (h a (by simp)) (by assumption))
    · exact hl
theorem attsG_le : ∀ {al : List Att} {l : Int}, attsG al l ≤ l
  | [], l => Int.le_refl _
  | a :: r, l => by
    rw [attsG]
    split
    · exact Int.le_trans attsG_le attG_le
    · exact Int.le_refl _
mutual
theorem Nd.left_low : ∀ (n : Nd) {l : Int}, n.fit → 0 < l → low0 ≤ n.left l
  | .mk _ _ t al ks, l, h, hl => by
    obtain ⟨h1, h2, h3, h4, h5⟩ := h
    rw [Nd.left]
    refine lefts_low ks h5 (attsG_low h3 ?_)
    unfold low0; unfold lim at h1; omega
theorem lefts_low : ∀ (ks : List Nd) {l : Int}, fits ks → low0 ≤ l → low0 ≤ lefts ks l
  | [], l, _, hl => hl
  | n :: r, l, h, hl => by
    rw [lefts]
    split
    · exact lefts_low r h.2 (n.left_low h.1 (by assumption))
    · exact hl
end
mutual
theorem Nd.left_size : ∀ (n : Nd) {l : Int}, (0 < n.left l → n.left l ≤ l - n.size) ∧ n.left l ≤ l
  | .mk _ _ t al ks, l => by
    rw [Nd.left, Nd.size]
    have h1 := lefts_size ks (l := attsG al (l - 1 - (t.length / 20 : Nat)))
    have h2 : attsG al (l - 1 - (t.length / 20 : Nat)) ≤ l - 1 - (t.length / 20 : Nat) := attsG_le
    refine ⟨fun h => ?_, ?_⟩
    · have := h1.1 h; omega
    · have := h1.2; omega
theorem lefts_size : ∀ (ks : List Nd) {l : Int}, (0 < lefts ks l → lefts ks l ≤ l - sizes ks) ∧ lefts ks l ≤ l
  | [], l => by simp [lefts, sizes]
  | n :: r, l => by
    rw [lefts, sizes]
    split
    · have h1 := n.left_size (l := l)
      have h2 := lefts_size r (l := n.left l)
      refine ⟨fun h => ?_, by omega⟩
      have := h2.1 h
      have := h1.1 (by omega)
      omega
    · exact ⟨fun h => by omega, Int.le_refl _⟩
end
theorem Nd.left_pos {n : Nd} {l : Int} (h : 0 < n.left l) : (n.size : Int) < l := by
  have := (n.left_size (l := l)).1 h
  omega

/-! The same trees. -/
def alike (a b : Att) : Bool := a.name == b.name && a.value == b.value
def alikes : List Att → List Att → Bool
  | [], [] => true
  | a :: r, b :: s => alike a b && alikes r s
  | _, _ => false
mutual
def Nd.same : Nd → Nd → Bool
  | .mk k _ t al ks, n => k == n.kind && t == n.text && alikes al n.attrs && sames ks n.kids
def sames : List Nd → List Nd → Bool
  | [], [] => true
  | a :: r, b :: s => a.same b && sames r s
  | _, _ => false
end
theorem alikes_refl : ∀ l : List Att, alikes l l = true
  | [] => rfl
  | a :: r => by simp [alikes, alike, alikes_refl r]
mutual
theorem Nd.same_refl : ∀ n : Nd, n.same n = true
  | .mk k _ t al ks => by simp [Nd.same, Nd.kind, Nd.text, Nd.attrs, Nd.kids, alikes_refl, sames_refl ks]
theorem sames_refl : ∀ l : List Nd, sames l l = true
  | [] => rfl
  | n :: r => by simp [sames, n.same_refl, sames_refl r]
end

def attrOf : List Att → List UInt8 → List UInt8 × Bool
  | [], _ => ([], false)
  | a :: r, nm => bif a.name == nm then (a.value, true) else attrOf r nm
def attrAt : List Att → List UInt8 → Int → Int
  | [], _, _ => -1
  | a :: r, nm, i => bif a.name == nm then i else attrAt r nm (i + 1)

/-! Contracts. -/
def leftC (N : Nat) : Con := fun vs h K => ∃ (nd : Nd) (l : Int), nd.size < N ∧ nd.fit ∧ 0 < l ∧ l ≤ 600 ∧ vs = [.agg (encN nd), .int .i64 l] ∧ K (.int .i64 (nd.left l)) h
def sameC (N : Nat) : Con := fun vs h K => ∃ a b : Nd, a.size < N ∧ a.fit ∧ b.fit ∧ vs = [.agg (encN a), .agg (encN b)] ∧ K (.bool (a.same b)) h
def samesC (k N : Nat) : Con := fun vs h K => ∃ al bl : List Nd, sizes al < N ∧ fits al ∧ fits bl ∧ al.length ≤ lim ∧ bl.length ≤ lim ∧ vs = [.sl 5 (encNs al) none, .sl 5 (encNs bl) none, .fn (.func k) [] []] ∧ K (.bool (sames al bl)) h
def alikeC : Con := fun vs h K => ∃ a b : Att, vs = [.agg (encA a), .agg (encA b)] ∧ K (.bool (alike a b)) h
def alikesC (k : Nat) : Con := fun vs h K => ∃ al bl : List Att, al.length ≤ lim ∧ bl.length ≤ lim ∧ vs = [.sl 3 (al.map encA) none, .sl 3 (bl.map encA) none, .fn (.func k) [] []] ∧ K (.bool (alikes al bl)) h
def attrC : Con := fun vs h K => ∃ (nd : Nd) (nm : List UInt8), nd.fit ∧ vs = [.agg (encN nd), .str nm] ∧ K (.tup [.str (attrOf nd.attrs nm).1, .bool (attrOf nd.attrs nm).2]) h
theorem encN_eq (n : Nd) : encN n = [.int .i64 n.kind, .int .i64 n.pl, .str n.text, .sl 3 (n.attrs.map encA) none, .sl 5 (encNs n.kids) none] := by
  obtain ⟨k, p, t, al, ks⟩ := n; rfl
theorem Nd.left_eq (n : Nd) (l : Int) : n.left l = lefts n.kids (attsG n.attrs (l - 1 - (n.text.length / 20 : Nat))) := by
  obtain ⟨k, p, t, al, ks⟩ := n; rfl
theorem Nd.size_eq (n : Nd) : n.size = 1 + sizes n.kids := by
  obtain ⟨k, p, t, al, ks⟩ := n; rfl
theorem Nd.fit_eq (n : Nd) : n.fit = (n.text.length ≤ lim ∧ n.attrs.length ≤ lim ∧ (∀ a ∈ n.attrs, a.fit) ∧ n.kids.length ≤ lim ∧ fits n.kids) := by
  obtain ⟨k, p, t, al, ks⟩ := n; rfl
theorem Nd.same_eq (a b : Nd) : a.same b = (a.kind == b.kind && a.text == b.text && alikes a.attrs b.attrs && sames a.kids b.kids) := by
  obtain ⟨k, p, t, al, ks⟩ := a; rfl
theorem Nd.depth_eq (n : Nd) : n.depth = depths n.kids := by
  obtain ⟨k, p, t, al, ks⟩ := n; rfl

theorem attrAt_spec (nm : List UInt8) : ∀ (al : List Att) (i : Int), 0 ≤ i → (attrAt al nm i = -1 ∧ attrOf al nm = ([], false)) ∨ ∃ pre x r, al = pre ++ x :: r ∧ attrAt al nm i = i + (pre.length : Nat) ∧ attrOf al nm = (x.value, true)
  | [], i, _ => .inl ⟨rfl, rfl⟩
  | a :: r, i, hi => by
    simp only [attrAt, attrOf]
    cases h : a.name == nm with
    | true => exact .inr ⟨[], a, r, rfl, by simp, rfl⟩
    | false =>
      simp only [cond_false]
      rcases attrAt_spec nm r (i + 1) (by omega) with ⟨h1, h2⟩ | ⟨pre, x, s, h1, h2, h3⟩
      · exact .inl ⟨h1, h2⟩
      · exact .inr ⟨a :: pre, x, s, by simp [h1], by rw [h2]; simp; omega, h3⟩
def nodeBlk (n : Nd) : Blk := .mem 25 [.int .i64 n.kind, .int .i64 n.pl, .str n.text, .sl 3 (n.attrs.map encA) none, .sl 5 (encNs n.kids) none]
def isNameC : Con := fun vs h K => ∃ (n : Nd) (a : Att) (nm : List UInt8), h = [nodeBlk n, .mem 9 [.str nm]] ∧ vs = [.agg (encA a), .ptr 1 0] ∧ K (.bool (a.name == nm)) [nodeBlk n, .mem 9 [.str nm]]
def findC (k : Nat) : Con := fun vs h K => ∃ (n : Nd) (al : List Att) (nm : List UInt8), al.length ≤ lim ∧ h = [nodeBlk n, .mem 9 [.str nm]] ∧ vs = [.sl 3 (al.map encA) none, .fn (.func k) [] [.ptr 1 0]] ∧ K (.int .i64 (attrAt al nm 0)) [nodeBlk n, .mem 9 [.str nm]]
def trueC : Con := fun vs h K => vs.isEmpty = true ∧ K (.bool true) h
def fewC : Con := fun vs h K => ∃ nd : Nd, nd.fit ∧ vs = [.agg (encN nd)] ∧ K (.bool (decide (0 < nd.left 600))) h
end Go.Ai
end

section
namespace Go.Ai
open Go.RowKit
set_option linter.unusedVariables false

/-- Where a thing stands first in a list; -1: nowhere. -/
def ixOf {α : Type} (p : α → Bool) : List α → Int → Int
  | [], _ => -1
  | a :: r, i => bif p a then i else ixOf p r (i + 1)
theorem ixOf_ge {α : Type} (p : α → Bool) : ∀ (l : List α) (i : Int), 0 ≤ i → decide (0 ≤ ixOf p l i) = l.any p
  | [], i, _ => rfl
  | a :: r, i, hi => by
    rw [ixOf, List.any_cons]
    cases p a with
    | true => simp [hi]
    | false => simpa using ixOf_ge p r (i + 1) (by omega)
def encI (l : List Int) : List (List AV) := l.map fun x => [.int .i64 x]
def encT (l : List (List UInt8)) : List (List AV) := l.map fun x => [.str x]
/-- How long a text may be here. -/
def tlim : Nat := 1000000
def containsC : Con := fun vs h K => ∃ s x : List UInt8, s.length ≤ tlim ∧ vs = [.str s, .str x] ∧ K (.bool (contB s x)) h
def ixIC : Con := fun vs h K => ∃ (l : List Int) (k : Int), l.length ≤ lim ∧ vs = [.sl 1 (encI l) none, .int .i64 k] ∧ K (.int .i64 (ixOf (fun x => k == x) l 0)) h
def hasIC : Con := fun vs h K => ∃ (l : List Int) (k : Int), l.length ≤ lim ∧ vs = [.sl 1 (encI l) none, .int .i64 k] ∧ K (.bool (l.any fun x => k == x)) h
def ixSC : Con := fun vs h K => ∃ (l : List (List UInt8)) (k : List UInt8), l.length ≤ lim ∧ vs = [.sl 1 (encT l) none, .str k] ∧ K (.int .i64 (ixOf (fun x => k == x) l 0)) h
def hasSC : Con := fun vs h K => ∃ (l : List (List UInt8)) (k : List UInt8), l.length ≤ lim ∧ vs = [.sl 1 (encT l) none, .str k] ∧ K (.bool (l.any fun x => k == x)) h
def kindsL : List Int := [2, 3, 4, 5, 6, 7, 10, 13, 14]
def contentB (k : Int) : Bool := kindsL.any fun x => k == x
def contentC : Con := fun vs h K => ∃ k : Int, vs = [.int .i64 k] ∧ K (.bool (contentB k)) h
def leafB (k : Int) : Bool := decide (2 ≤ k) && decide (k ≤ 6)
def leafC : Con := fun vs h K => ∃ k : Int, vs = [.int .i64 k] ∧ K (.bool (leafB k)) h
def fitB (p k i n : Int) : Bool :=
  bif p == 7 then (k == (if i = 0 then 8 else 9)) && decide (i < 2)
  else bif p == 10 then (k == 11) || (k == 12 && decide (0 < i) && i == n - 1)
  else contentB k
def fitC : Con := fun vs h K => ∃ p k i n : Int, 0 ≤ i ∧ i < n ∧ n ≤ lim ∧ vs = [.int .i64 p, .int .i64 k, .int .i64 i, .int .i64 n] ∧ K (.bool (fitB p k i n)) h
def esi1 : List UInt8 := [60, 101, 115, 105, 58]
def esi2 : List UInt8 := [60, 47, 101, 115, 105, 58]
def esi3 : List UInt8 := [60, 33, 45, 45, 101, 115, 105]
def blanksL : List (List UInt8) := [[32], [9], [10], [13]]
def taggedB (s : List UInt8) : Bool := contB s esi1 || contB s esi2 || blanksL.any fun b => contB s (esi3 ++ b)
def taggedC : Con := fun vs h K => ∃ s : List UInt8, s.length ≤ tlim ∧ vs = [.str s] ∧ K (.bool (taggedB s)) h
def fullC : Con := fun vs h K => ∃ s : List UInt8, vs = [.str s] ∧ K (.bool (!(s == []))) h
def anyC : Con := fun vs h K => ∃ s : List UInt8, vs = [.str s] ∧ K (.bool true) h
/-- A page's text stands in a block of its own. -/
def txtBlk (s : List UInt8) : Blk := .mem 9 [.str s]
def tag1C : Con := fun vs h K => ∃ s b : List UInt8, s.length ≤ tlim ∧ b.length ≤ 10 ∧ h = [.mem 9 [.str s], .grow 4 1 9] ∧ vs = [.str b, .ptr 0 0] ∧ K (.bool (contB s (esi3 ++ b))) [.mem 9 [.str s], .grow 4 1 9]
def tagHp (s : List UInt8) : Hp := [.mem 9 [.str s], .grow 4 1 9]
def blanksV : AV := .sl 1 [[.str [32]], [.str [9]], [.str [10]], [.str [13]]] (some 1)
def tagIxC : Con := fun vs h K => ∃ s : List UInt8, s.length ≤ tlim ∧ h = [.mem 9 [.str s], .grow 4 1 9] ∧ vs = [.sl 1 [[.str [32]], [.str [9]], [.str [10]], [.str [13]]] (some 1), .fn (.func 48) [] [.ptr 0 0]] ∧ K (.int .i64 (ixOf (fun b => contB s (esi3 ++ b)) blanksL 0)) [.mem 9 [.str s], .grow 4 1 9]
def tagAnyC : Con := fun vs h K => ∃ s : List UInt8, s.length ≤ tlim ∧ h = [.mem 9 [.str s], .grow 4 1 9] ∧ vs = [.sl 1 [[.str [32]], [.str [9]], [.str [10]], [.str [13]]] (some 1), .fn (.func 48) [] [.ptr 0 0]] ∧ K (.bool (blanksL.any fun b => contB s (esi3 ++ b))) [.mem 9 [.str s], .grow 4 1 9]
def inl1 : List UInt8 := [60, 47, 101, 115, 105, 58, 105, 110, 108, 105, 110, 101]
def rem1 : List UInt8 := [60, 47, 101, 115, 105, 58, 114, 101, 109, 111, 118, 101]
def textB (k : Int) (t : List UInt8) (hid : Bool) : Bool :=
  bif k == 2 then !(t == []) && !taggedB t && !(hid && contB t [45, 45, 62])
  else bif k == 4 then !contB t inl1
  else bif k == 5 then !contB t rem1 && !contB t esi1
  else t == []
def textC : Con := fun vs h K => ∃ (n : Nd) (hid : Bool), n.text.length ≤ tlim ∧ vs = [.agg (encN n), .bool hid] ∧ K (.bool (textB n.kind n.text hid)) h
/-! Attributes and their rules. -/
inductive May where
  | full
  | one (l : List (List UInt8))
  | any
structure Rul where
  name : List UInt8
  must : Bool
  may : May
def May.ok : May → List UInt8 → Bool
  | .full, v => !(v == [])
  | .one l, v => l.any fun x => v == x
  | .any, _ => true
def May.enc : May → AV
  | .full => .fn (.func 35) [] []
  | .one l => .fn (.func 36) [.sl 1 (encT l) none] []
  | .any => .fn (.func 37) [] []
def encR (r : Rul) : List AV := [.str r.name, .bool r.must, r.may.enc]
def quoB (v : List UInt8) : Bool := contB v [34] && contB v [39]
/-- How many attributes a rule speaks of; none: one of them may not be. -/
def cntR (r : Rul) : List Att → Int → Option Int
  | [], n => some n
  | a :: t, n => bif a.name == r.name then (bif r.may.ok a.value && !quoB a.value then cntR r t (n + 1) else none) else cntR r t n
def keepR : List Rul → List Att → Int → Bool
  | [], al, f => f == (al.length : Nat)
  | r :: t, al, f => match cntR r al 0 with
    | none => false
    | some n => bif decide (1 < n) then false else bif n == 0 && r.must then false else keepR t al (f + n)
def resR (m : Bool) (t : List Rul) (al : List Att) (f : Int) : Option Int → Bool
  | none => false
  | some n => bif decide (1 < n) then false else bif n == 0 && m then false else keepR t al (f + n)
theorem keepR_cons (r : Rul) (t : List Rul) (al : List Att) (f : Int) : keepR (r :: t) al f = resR r.must t al f (cntR r al 0) := by
  rw [keepR, resR.eq_def]
def rul3_0 : Rul := ⟨[115, 114, 99], true, .full⟩
def rul3_1 : Rul := ⟨[97, 108, 116], false, .full⟩
def rul3_2 : Rul := ⟨[111, 110, 101, 114, 114, 111, 114], false, .one [[99, 111, 110, 116, 105, 110, 117, 101]]⟩
def rul4_0 : Rul := ⟨[110, 97, 109, 101], true, .full⟩
def rul4_1 : Rul := ⟨[102, 101, 116, 99, 104, 97, 98, 108, 101], false, .one [[121, 101, 115], [110, 111]]⟩
def rul6_0 : Rul := ⟨[116, 101, 120, 116], true, .any⟩
def rul11_0 : Rul := ⟨[116, 101, 115, 116], true, .full⟩
def rulesL (k : Int) : List Rul :=
  bif k == 3 then [rul3_0, rul3_1, rul3_2] else bif k == 4 then [rul4_0, rul4_1] else bif k == 6 then [rul6_0] else bif k == 11 then [rul11_0] else []
def rulesC : Con := fun vs h K => ∃ k : Int, vs = [.int .i64 k] ∧ K (.sl 3 ((rulesL k).map encR) none) h
def keepC : Con := fun vs h K => ∃ (k : Int) (al : List Att), al.length ≤ tlim ∧ (∀ a ∈ al, a.value.length ≤ tlim) ∧ vs = [.agg [.sl 3 (al.map encA) none], .sl 3 ((rulesL k).map encR) none] ∧ K (.bool (keepR (rulesL k) al 0)) h
end Go.Ai
end

section
namespace Go.Ai
open Go.RowKit
set_option linter.unusedVariables false

/-- What a node's own form is found to be. -/
def formE (k : Int) (t : List UInt8) (al : List Att) (len : Nat) (d : Int) (hid : Bool) (b : Int) : Int :=
  bif k == 14 && hid then 13
  else bif !(k == 2) && decide (16 < d) then 3
  else bif !keepR (rulesL k) al 0 then 12
  else bif !textB k t hid || (k == 2 && b == 2) then 4
  else bif (leafB k && decide (0 < len)) || (k == 7 && !(len == 2)) || (k == 10 && len == 0) then 13
  else 0
mutual
def Nd.chk : Nd → Int → Bool → Int → Int
  | .mk k _ t al ks, d, hid, b => bif formE k t al ks.length d hid b == 0 then chks k (ks.length : Nat) ks 0 (d + 1) (hid || k == 14) 0 else formE k t al ks.length d hid b
def chks (p n : Int) : List Nd → Int → Int → Bool → Int → Int
  | [], _, _, _, _ => 0
  | c :: r, i, d, hid, b => bif !fitB p c.kind i n then 13 else bif c.chk d hid b == 0 then chks p n r (i + 1) d hid c.kind else c.chk d hid b
end
mutual
def Nd.tfit : Nd → Prop
  | .mk _ _ t al ks => t.length ≤ tlim ∧ al.length ≤ tlim ∧ (∀ a ∈ al, a.value.length ≤ tlim) ∧ ks.length ≤ tlim ∧ tfits ks
def tfits : List Nd → Prop
  | [] => True
  | n :: r => n.tfit ∧ tfits r
end
def checkC (N : Nat) : Con := fun vs h K => ∃ (n : Nd) (d b : Int) (hid : Bool), n.size < N ∧ n.tfit ∧ 0 ≤ d ∧ d + N ≤ 1000000 ∧ vs = [.agg (encN n), .agg [.int .i64 d, .bool hid], .int .i64 b] ∧ K (.int .i64 (n.chk d hid b)) h
def Nd.page (n : Nd) : Int := bif n.kind == 1 then n.chk 0 false 0 else 13
def pageC (N : Nat) : Con := fun vs h K => ∃ n : Nd, n.size < N ∧ n.tfit ∧ N ≤ 1000000 ∧ vs = [.agg (encN n)] ∧ K (.int .i64 n.page) h
/-! A tree all of whose places are further on. -/
def Att.moved (b : Int) (a : Att) : Att := ⟨a.name, a.value, IntKind.wrap .i64 (a.pl + b)⟩
mutual
def Nd.moved : Nd → Int → Nd
  | .mk k p t al ks, b => .mk k (IntKind.wrap .i64 (p + b)) t (al.map (Att.moved b)) (moveds ks b)
def moveds : List Nd → Int → List Nd
  | [], _ => []
  | n :: r, b => n.moved b :: moveds r b
end
def movedC (N : Nat) : Con := fun vs h K => ∃ (n : Nd) (b : Int), n.size < N ∧ n.tfit ∧ vs = [.agg (encN n), .int .i64 b] ∧ K (.agg [.int .i64 n.kind, .int .i64 (IntKind.wrap .i64 (n.pl + b)), .str n.text, .sl 3 ((n.attrs.map (Att.moved b)).map encA) none, .sl 5 (encNs (moveds n.kids b)) none]) h
end Go.Ai
end

section
namespace Go.Proofs.YtafflebdjmnihaaDoor
open Go.Ai Go
set_option linter.unusedSimpArgs false
set_option linter.unusedVariables false

theorem wrap_succ {n : Nat} (h : n < lim) : IntKind.wrap .i64 ((n : Int) + 1) = ((n + 1 : Nat) : Int) := by
  unfold lim at h; rw [wrap_in] <;> omega
theorem wrap_sub {a b : Int} (h1 : -9223372036854775808 ≤ a - b) (h2 : a - b ≤ 9223372036854775807) : IntKind.wrap .i64 (a - b) = a - b := wrap_in h1 h2
theorem stripAs (n : Nat) (h : Hp) (l : List Att) : stripss n h (l.map encA) = l.map encA := stripss_pure _ _ _ (pure_encAs l)
theorem stripNs (n : Nat) (h : Hp) (l : List Nd) : stripss n h (encNs l) = encNs l := stripss_pure _ _ _ (pure_encNs l)
end Go.Proofs.YtafflebdjmnihaaDoor
end
