/-
  Trees of nodes, in plain terms: what they are as abstract values, how many nodes, how deep, the same. No statement about the program is made here.
  Runs of the functions of trees, printed by a home tool; each is the kernel's word.
  Runs of the functions of trees, printed by a home tool; each is the kernel's word.
  What a row reads at the types of this seat is a tree, a text or a number, in plain terms.
-/
import Derived.Test.YtpfbpidlglelgaaAiMono
import Derived.Test.YtpfbpidlglelgaaCfg
import Derived.Test.YtpfbpidlglelgaaAiLaw
section
namespace Go.Ai
open Go.RowKit

structure Att where
  name : List UInt8
  value : List UInt8
  pl : Int

inductive Nd where
  | mk (kind pl : Int) (text : List UInt8) (attrs : List Att) (kids : List Nd)
  deriving Inhabited

def Nd.kind : Nd → Int | .mk k _ _ _ _ => k
def Nd.pl : Nd → Int | .mk _ p _ _ _ => p
def Nd.text : Nd → List UInt8 | .mk _ _ t _ _ => t
def Nd.attrs : Nd → List Att | .mk _ _ _ a _ => a
def Nd.kids : Nd → List Nd | .mk _ _ _ _ l => l

def encA (a : Att) : List AV := [.str a.name, .str a.value, .int .i64 a.pl]
mutual
def encN : Nd → List AV
  | .mk k p t al ks => [.int .i64 k, .int .i64 p, .str t, .sl 3 (al.map encA) none, .sl 5 (encNs ks) none]
def encNs : List Nd → List (List AV)
  | [] => []
  | n :: r => encN n :: encNs r
end

theorem encNs_map : ∀ l : List Nd, encNs l = l.map encN
  | [] => rfl
  | n :: r => by rw [encNs, encNs_map r]; rfl

mutual
def Nd.size : Nd → Nat
  | .mk _ _ _ _ ks => 1 + sizes ks
def sizes : List Nd → Nat
  | [] => 0
  | n :: r => n.size + sizes r
end
mutual
def Nd.depth : Nd → Nat
  | .mk _ _ _ _ ks => depths ks
def depths : List Nd → Nat
  | [] => 0
  | n :: r => max (n.depth + if n.kind = 2 then 0 else 1) (depths r)
end

mutual
theorem pure_encN : ∀ n : Nd, pureV.pureVs (encN n) = true
  | .mk k p t al ks => by
    simp only [encN, pureV.pureVs, pureV, Option.isNone_none, Bool.true_and, Bool.and_true, Bool.and_eq_true]
    refine ⟨?_, pure_encNs ks⟩
    induction al with
    | nil => rfl
    | cons a r ih => simp only [List.map_cons, pureV.pureVss, encA, pureV.pureVs, pureV, ih, Bool.true_and]
theorem pure_encNs : ∀ l : List Nd, pureV.pureVss (encNs l) = true
  | [] => rfl
  | n :: r => by simp only [encNs, pureV.pureVss, pure_encN n, pure_encNs r, Bool.true_and]
end
theorem pure_encAs (l : List Att) : pureV.pureVss (l.map encA) = true := by
  induction l with
  | nil => rfl
  | cons a r ih => simp only [List.map_cons, pureV.pureVss, encA, pureV.pureVs, pureV, ih, Bool.true_and]

mutual
theorem low_pure (n : Nat) : ∀ v, pureV v = true → lowV n v = true
  | .top, _ => rfl
  | .bool _, _ => rfl
  | .int _ _, _ => rfl
  | .str _, _ => rfl
  | .nilp, _ => rfl
  | .ptr _ _, hp => by simp [pureV] at hp
  | .ro cs, hp => by rw [lowV]; exact lows_pure n cs (by simpa [pureV] using hp)
  | .sl sz es own, hp => by
    simp only [pureV, Bool.and_eq_true] at hp
    cases own with
    | none => simp only [lowV, lowss_pure n es hp.2, Bool.and_true]
    | some _ => simp at hp
  | .osl _ _ _ _, hp => by simp [pureV] at hp
  | .fn f a c, hp => by
    simp only [pureV, Bool.and_eq_true] at hp
    rw [lowV, lows_pure n a hp.1, lows_pure n c hp.2]; rfl
  | .nilf, _ => rfl
  | .dfr cs, hp => by first | (simp [pureV] at hp; done) | (rw [lowV]; exact lows_pure n cs (by simpa [pureV] using hp))
  | .iface t v, hp => by rw [lowV]; exact low_pure n v (by simpa [pureV] using hp)
  | .nili, _ => rfl
  | .agg cs, hp => by rw [lowV]; exact lows_pure n cs (by simpa [pureV] using hp)
  | .tup cs, hp => by rw [lowV]; exact lows_pure n cs (by simpa [pureV] using hp)
theorem lows_pure (n : Nat) : ∀ xs, pureV.pureVs xs = true → lowVs n xs = true
  | [], _ => rfl
  | x :: xs, hp => by
    simp only [pureV.pureVs, Bool.and_eq_true] at hp
    rw [lowVs, low_pure n x hp.1, lows_pure n xs hp.2]; rfl
theorem lowss_pure (n : Nat) : ∀ xs, pureV.pureVss xs = true → lowVss n xs = true
  | [], _ => rfl
  | x :: xs, hp => by
    simp only [pureV.pureVss, Bool.and_eq_true] at hp
    rw [lowVss, lows_pure n x hp.1, lowss_pure n xs hp.2]; rfl
end

theorem getE_map {α : Type} (f : α → List AV) (l : List α) {i : Nat} (h : i < l.length) : getE (l.map f) (i : Int) = f l[i] := by
  unfold getE
  simp [h]

def depthC (N : Nat) : Con := fun vs h K => ∃ nd : Nd, nd.size < N ∧ vs = [.agg (encN nd)] ∧ K (.int .i64 nd.depth) h

mutual
theorem Nd.depth_le : ∀ n : Nd, n.depth < n.size
  | .mk _ _ _ _ ks => by
    simp only [Nd.depth, Nd.size]
    have := depths_le ks
    omega
theorem depths_le : ∀ l : List Nd, depths l ≤ sizes l
  | [] => Nat.le_refl _
  | n :: r => by
    simp only [depths, sizes]
    have h1 := n.depth_le
    have h2 := depths_le r
    split <;> omega
end

theorem depths_text {n : Nd} (h : n.kind = 2) (r : List Nd) : depths (n :: r) = max n.depth (depths r) := by simp only [depths, h, if_true, Nat.add_zero]
theorem depths_other {n : Nd} (h : ¬n.kind = 2) (r : List Nd) : depths (n :: r) = max (n.depth + 1) (depths r) := by simp only [depths, h, if_false]

theorem sizes_append : ∀ a b : List Nd, sizes (a ++ b) = sizes a + sizes b
  | [], b => by simp [sizes]
  | n :: r, b => by simp only [List.cons_append, sizes, sizes_append r b]; omega
theorem sizes_mem {l : List Nd} {n : Nd} (h : n ∈ l) : n.size ≤ sizes l := by
  induction l with
  | nil => cases h
  | cons m r ih =>
    simp only [sizes]
    rcases List.mem_cons.1 h with rfl | h
    · omega
    · have := ih h; omega
theorem sizes_len : ∀ l : List Nd, l.length ≤ sizes l
  | [] => Nat.le_refl _
  | n :: r => by
    simp only [List.length_cons, sizes]
    have h1 := n.depth_le
    have h2 := sizes_len r
    omega
theorem getE_pre {α : Type} (f : α → List AV) (pre : List α) (x : α) (r : List α) : getE ((pre ++ x :: r).map f) (pre.length : Int) = f x := by
  unfold getE; simp
theorem getE_encNs (pre : List Nd) (x : Nd) (r : List Nd) : getE (encNs (pre ++ x :: r)) (pre.length : Int) = encN x := by
  rw [encNs_map]; exact getE_pre _ _ _ _
theorem encNs_length (l : List Nd) : (encNs l).length = l.length := by rw [encNs_map]; simp
theorem stripss_encAs (l : List Att) : stripss 0 [] (l.map encA) = l.map encA := stripss_pure _ _ _ (pure_encAs l)
theorem stripss_encNs (l : List Nd) : stripss 0 [] (encNs l) = encNs l := stripss_pure _ _ _ (pure_encNs l)
theorem low_encAs (n : Nat) (l : List Att) : lowVss n (l.map encA) = true := lowss_pure n _ (pure_encAs l)
theorem low_encNs (n : Nat) (l : List Nd) : lowVss n (encNs l) = true := lowss_pure n _ (pure_encNs l)

/-! Sizes that every tree of a world keeps to. -/
def lim : Nat := 9223372036854775807
def Att.fit (a : Att) : Prop := a.name.length ≤ lim ∧ a.value.length ≤ lim
mutual
def Nd.fit : Nd → Prop
  | .mk _ _ t al ks => t.length ≤ lim ∧ al.length ≤ lim ∧ (∀ a ∈ al, a.fit) ∧ ks.length ≤ lim ∧ fits ks
def fits : List Nd → Prop
  | [] => True
  | n :: r => n.fit ∧ fits r
end
theorem fits_mem : ∀ {l : List Nd}, fits l → ∀ n ∈ l, n.fit
  | [], _, n, hn => by cases hn
  | m :: r, h, n, hn => by
    rcases List.mem_cons.1 hn with rfl | hn
    · exact h.1
    · exact fits_mem h.2 n hn
theorem fits_append : ∀ {a b : List Nd}, fits (a ++ b) ↔ fits a ∧ fits b
  | [], b => by simp [fits]
  | n :: r, b => by simp only [List.cons_append, fits, fits_append (a := r), and_assoc]

/-! What is left of a number behind a tree. -/
def attG (a : Att) (l : Int) : Int := l - 1 - (a.name.length / 20 : Nat) - (a.value.length / 20 : Nat)
def attsG : List Att → Int → Int
  | [], l => l
  | a :: r, l => if 0 < l then attsG r (attG a l) else l
mutual
def Nd.left : Nd → Int → Int
  | .mk _ _ t al ks, l => lefts ks (attsG al (l - 1 - (t.length / 20 : Nat)))
def lefts : List Nd → Int → Int
  | [], l => l
  | n :: r, l => if 0 < l then lefts r (n.left l) else l
end
def low0 : Int := -2000000000000000000
theorem attG_low {a : Att} (h : a.fit) {l : Int} (hl : 0 < l) : low0 ≤ attG a l := by
  obtain ⟨h1, h2⟩ := h
  unfold attG low0
  unfold lim at h1 h2
  omega
theorem attG_le {a : Att} {l : Int} : attG a l ≤ l := by unfold attG; omega
theorem attsG_low : ∀ {al : List Att} {l : Int}, (∀ a ∈ al, a.fit) → low0 ≤ l → low0 ≤ attsG al l
  | [], l, _, hl => hl
  | a :: r, l, h, hl => by
    rw [attsG]
    split
    · exact attsG_low (fun b hb => h b (by simp [hb])) (attG_low (h a (by simp)) (by assumption))
    · exact hl
theorem attsG_le : ∀ {al : List Att} {l : Int}, attsG al l ≤ l
  | [], l => Int.le_refl _
  | a :: r, l => by
    rw [attsG]
    split
    · exact Int.le_trans attsG_le attG_le
    · exact Int.le_refl _
mutual
theorem Nd.left_low : ∀ (n : Nd) {l : Int}, n.fit → 0 < l → low0 ≤ n.left l
  | .mk _ _ t al ks, l, h, hl => by
    obtain ⟨h1, h2, h3, h4, h5⟩ := h
    rw [Nd.left]
    refine lefts_low ks h5 (attsG_low h3 ?_)
    unfold low0; unfold lim at h1; omega
theorem lefts_low : ∀ (ks : List Nd) {l : Int}, fits ks → low0 ≤ l → low0 ≤ lefts ks l
  | [], l, _, hl => hl
  | n :: r, l, h, hl => by
    rw [lefts]
    split
    · exact lefts_low r h.2 (n.left_low h.1 (by assumption))
    · exact hl
end
mutual
theorem Nd.left_size : ∀ (n : Nd) {l : Int}, (0 < n.left l → n.left l ≤ l - n.size) ∧ n.left l ≤ l
  | .mk _ _ t al ks, l => by
    rw [Nd.left, Nd.size]
    have h1 := lefts_size ks (l := attsG al (l - 1 - (t.length / 20 : Nat)))
    have h2 : attsG al (l - 1 - (t.length / 20 : Nat)) ≤ l - 1 - (t.length / 20 : Nat) := attsG_le
    refine ⟨fun h => ?_, ?_⟩
    · have := h1.1 h; omega
    · have := h1.2; omega
theorem lefts_size : ∀ (ks : List Nd) {l : Int}, (0 < lefts ks l → lefts ks l ≤ l - sizes ks) ∧ lefts ks l ≤ l
  | [], l => by simp [lefts, sizes]
  | n :: r, l => by
    rw [lefts, sizes]
    split
    · have h1 := n.left_size (l := l)
      have h2 := lefts_size r (l := n.left l)
      refine ⟨fun h => ?_, by omega⟩
      have := h2.1 h
      have := h1.1 (by omega)
      omega
    · exact ⟨fun h => by omega, Int.le_refl _⟩
end
theorem Nd.left_pos {n : Nd} {l : Int} (h : 0 < n.left l) : (n.size : Int) < l := by
  have := (n.left_size (l := l)).1 h
  omega

/-! The same trees. -/
def alike (a b : Att) : Bool := a.name == b.name && a.value == b.value
def alikes : List Att → List Att → Bool
  | [], [] => true
  | a :: r, b :: s => alike a b && alikes r s
  | _, _ => false
mutual
def Nd.same : Nd → Nd → Bool
  | .mk k _ t al ks, n => k == n.kind && t == n.text && alikes al n.attrs && sames ks n.kids
def sames : List Nd → List Nd → Bool
  | [], [] => true
  | a :: r, b :: s => a.same b && sames r s
  | _, _ => false
end
theorem alikes_refl : ∀ l : List Att, alikes l l = true
  | [] => rfl
  | a :: r => by simp [alikes, alike, alikes_refl r]
mutual
theorem Nd.same_refl : ∀ n : Nd, n.same n = true
  | .mk k _ t al ks => by simp [Nd.same, Nd.kind, Nd.text, Nd.attrs, Nd.kids, alikes_refl, sames_refl ks]
theorem sames_refl : ∀ l : List Nd, sames l l = true
  | [] => rfl
  | n :: r => by simp [sames, n.same_refl, sames_refl r]
end

def attrOf : List Att → List UInt8 → List UInt8 × Bool
  | [], _ => ([], false)
  | a :: r, nm => bif a.name == nm then (a.value, true) else attrOf r nm
def attrAt : List Att → List UInt8 → Int → Int
  | [], _, _ => -1
  | a :: r, nm, i => bif a.name == nm then i else attrAt r nm (i + 1)

/-! Contracts. -/
def leftC (N : Nat) : Con := fun vs h K => ∃ (nd : Nd) (l : Int), nd.size < N ∧ nd.fit ∧ 0 < l ∧ l ≤ 600 ∧ vs = [.agg (encN nd), .int .i64 l] ∧ K (.int .i64 (nd.left l)) h
def sameC (N : Nat) : Con := fun vs h K => ∃ a b : Nd, a.size < N ∧ a.fit ∧ b.fit ∧ vs = [.agg (encN a), .agg (encN b)] ∧ K (.bool (a.same b)) h
def samesC (k N : Nat) : Con := fun vs h K => ∃ al bl : List Nd, sizes al < N ∧ fits al ∧ fits bl ∧ al.length ≤ lim ∧ bl.length ≤ lim ∧ vs = [.sl 5 (encNs al) none, .sl 5 (encNs bl) none, .fn (.func k) [] []] ∧ K (.bool (sames al bl)) h
def alikeC : Con := fun vs h K => ∃ a b : Att, vs = [.agg (encA a), .agg (encA b)] ∧ K (.bool (alike a b)) h
def alikesC (k : Nat) : Con := fun vs h K => ∃ al bl : List Att, al.length ≤ lim ∧ bl.length ≤ lim ∧ vs = [.sl 3 (al.map encA) none, .sl 3 (bl.map encA) none, .fn (.func k) [] []] ∧ K (.bool (alikes al bl)) h
def attrC : Con := fun vs h K => ∃ (nd : Nd) (nm : List UInt8), nd.fit ∧ vs = [.agg (encN nd), .str nm] ∧ K (.tup [.str (attrOf nd.attrs nm).1, .bool (attrOf nd.attrs nm).2]) h
theorem encN_eq (n : Nd) : encN n = [.int .i64 n.kind, .int .i64 n.pl, .str n.text, .sl 3 (n.attrs.map encA) none, .sl 5 (encNs n.kids) none] := by
  obtain ⟨k, p, t, al, ks⟩ := n; rfl
theorem Nd.left_eq (n : Nd) (l : Int) : n.left l = lefts n.kids (attsG n.attrs (l - 1 - (n.text.length / 20 : Nat))) := by
  obtain ⟨k, p, t, al, ks⟩ := n; rfl
theorem Nd.size_eq (n : Nd) : n.size = 1 + sizes n.kids := by
  obtain ⟨k, p, t, al, ks⟩ := n; rfl
theorem Nd.fit_eq (n : Nd) : n.fit = (n.text.length ≤ lim ∧ n.attrs.length ≤ lim ∧ (∀ a ∈ n.attrs, a.fit) ∧ n.kids.length ≤ lim ∧ fits n.kids) := by
  obtain ⟨k, p, t, al, ks⟩ := n; rfl
theorem Nd.same_eq (a b : Nd) : a.same b = (a.kind == b.kind && a.text == b.text && alikes a.attrs b.attrs && sames a.kids b.kids) := by
  obtain ⟨k, p, t, al, ks⟩ := a; rfl
theorem Nd.depth_eq (n : Nd) : n.depth = depths n.kids := by
  obtain ⟨k, p, t, al, ks⟩ := n; rfl

theorem attrAt_spec (nm : List UInt8) : ∀ (al : List Att) (i : Int), 0 ≤ i → (attrAt al nm i = -1 ∧ attrOf al nm = ([], false)) ∨ ∃ pre x r, al = pre ++ x :: r ∧ attrAt al nm i = i + (pre.length : Nat) ∧ attrOf al nm = (x.value, true)
  | [], i, _ => .inl ⟨rfl, rfl⟩
  | a :: r, i, hi => by
    simp only [attrAt, attrOf]
    cases h : a.name == nm with
    | true => exact .inr ⟨[], a, r, rfl, by simp, rfl⟩
    | false =>
      simp only [cond_false]
      rcases attrAt_spec nm r (i + 1) (by omega) with ⟨h1, h2⟩ | ⟨pre, x, s, h1, h2, h3⟩
      · exact .inl ⟨h1, h2⟩
      · exact .inr ⟨a :: pre, x, s, by simp [h1], by rw [h2]; simp; omega, h3⟩
def nodeBlk (n : Nd) : Blk := .mem 25 [.int .i64 n.kind, .int .i64 n.pl, .str n.text, .sl 3 (n.attrs.map encA) none, .sl 5 (encNs n.kids) none]
def isNameC : Con := fun vs h K => ∃ (n : Nd) (a : Att) (nm : List UInt8), h = [nodeBlk n, .mem 9 [.str nm]] ∧ vs = [.agg (encA a), .ptr 1 0] ∧ K (.bool (a.name == nm)) [nodeBlk n, .mem 9 [.str nm]]
def findC (k : Nat) : Con := fun vs h K => ∃ (n : Nd) (al : List Att) (nm : List UInt8), al.length ≤ lim ∧ h = [nodeBlk n, .mem 9 [.str nm]] ∧ vs = [.sl 3 (al.map encA) none, .fn (.func k) [] [.ptr 1 0]] ∧ K (.int .i64 (attrAt al nm 0)) [nodeBlk n, .mem 9 [.str nm]]
def trueC : Con := fun vs h K => vs.isEmpty = true ∧ K (.bool true) h
def fewC : Con := fun vs h K => ∃ nd : Nd, nd.fit ∧ vs = [.agg (encN nd)] ∧ K (.bool (decide (0 < nd.left 600))) h
end Go.Ai
end

section
namespace Go.Proofs.Ytpfbpidlglelgaa
open Go.Ai Go
set_option maxRecDepth 100000
set_option linter.unusedVariables false
theorem t23a {N : Nat} {v : AV} {xk xp : Int} {xt : List UInt8} {xa xs : List (List AV)} (hT : TabOk cfg (ctab [(23, depthC N)])) (H :
    ToEnd cfg 23 (bodyOf Try.f23) (RetIs Try.prog Try.f23 v) [Fm.code [0, 1, 0, 1, 1], Fm.block 0, Fm.code [1, 1, 1]] XT.normal [(1, true, AV.ptr 0 0), (3, true, AV.int IntKind.i64 0), (4, true, AV.int IntKind.i64 0)] [Blk.mem 25 [AV.int IntKind.i64 xk, AV.int IntKind.i64 xp, AV.str xt, AV.sl 3 xa none, AV.sl 5 xs none]]) :
    ToEnd cfg 23 (bodyOf Try.f23) (RetIs Try.prog Try.f23 v) ([.code []]) .normal ([(0, true, .agg [.int .i64 xk, .int .i64 xp, .str xt, .sl 3 xa none, .sl 5 xs none])]) ([]) := by
  have e : unr cfg 23 (bodyOf Try.f23) (ctab [(23, depthC N)]) ⟨[[0, 1, 0, 1, 1]], [([0, 0, 0, 1, 0, 0, 1, 0, 1, 1], 3, [.int .i64, .int .i64, .str, .sl 3, .sl 5]), ([0, 0, 1, 0, 0, 1, 0, 0, 1, 0, 1, 1], 3, [.int .i64, .int .i64, .str, .sl 3, .sl 5])]⟩ (RetIs Try.prog Try.f23 v) 100000 ([.code []]) .normal ([(0, true, .agg [.int .i64 xk, .int .i64 xp, .str xt, .sl 3 xa none, .sl 5 xs none])]) ([]) =
    (ToEnd cfg 23 (bodyOf Try.f23) (RetIs Try.prog Try.f23 v) [Fm.code [0, 1, 0, 1, 1], Fm.block 0, Fm.code [1, 1, 1]] XT.normal [(1, true, AV.ptr 0 0), (3, true, AV.int IntKind.i64 0), (4, true, AV.int IntKind.i64 0)] [Blk.mem 25 [AV.int IntKind.i64 xk, AV.int IntKind.i64 xp, AV.str xt, AV.sl 3 xa none, AV.sl 5 xs none]]) := by kernel_rfl
  exact unr_ok hT 100000 _ _ _ _ (e.mpr H)

theorem t23b {N : Nat} {v : AV} {xk xp : Int} {xt : List UInt8} {xa xs : List (List AV)} {i3 : Int} {i4 : Int} (hT : TabOk cfg (ctab [(23, depthC N)])) (H :
    ifP (decide (i4 < (↑(List.length xs) : Int))) (gAnd (inR i4 (List.length xs) && true && true) (∃ (z1 : Int), ∃ (z2 : Int), ∃ (s3 : List UInt8), ∃ (es4 : List (List AV)), ∃ (es5 : List (List AV)), getE xs i4 = [AV.int IntKind.i64 z1, AV.int IntKind.i64 z2, AV.str s3, AV.sl 3 es4 none, AV.sl 5 es5 none] ∧ ∃ (nd6 : Nd), Nd.size nd6 < N ∧ [AV.agg [AV.int IntKind.i64 z1, AV.int IntKind.i64 z2, AV.str s3, AV.sl 3 (stripss 0 [] es4) none, AV.sl 5 (stripss 0 [] es5) none]] = [AV.agg (encN nd6)] ∧ gAnd (inR i4 (List.length xs) && true && true) (∃ (z7 : Int), ∃ (z8 : Int), ∃ (s9 : List UInt8), ∃ (es10 : List (List AV)), ∃ (es11 : List (List AV)), getE xs i4 = [AV.int IntKind.i64 z7, AV.int IntKind.i64 z8, AV.str s9, AV.sl 3 es10 none, AV.sl 5 es11 none] ∧ ifP (z7 != 2) (ifP (decide (IntKind.wrap IntKind.i64 ((↑(Nd.depth nd6) : Int) + 1) > i3)) (gAnd (lowVss 1 xa && true && (lowVss 1 xs && true && true) && true) (ToEnd cfg 23 (bodyOf Try.f23) (RetIs Try.prog Try.f23 v) [Fm.code [0, 1, 0, 1, 1], Fm.block 0, Fm.code [1, 1, 1]] XT.normal [(1, true, AV.ptr 0 0), (3, true, AV.int IntKind.i64 (IntKind.wrap IntKind.i64 ((↑(Nd.depth nd6) : Int) + 1))), (4, true, AV.int IntKind.i64 (IntKind.wrap IntKind.i64 (i4 + 1)))] [Blk.mem 25 [AV.int IntKind.i64 xk, AV.int IntKind.i64 xp, AV.str xt, AV.sl 3 xa none, AV.sl 5 xs none]])) (gAnd (lowVss 1 xa && true && (lowVss 1 xs && true && true) && true) (ToEnd cfg 23 (bodyOf Try.f23) (RetIs Try.prog Try.f23 v) [Fm.code [0, 1, 0, 1, 1], Fm.block 0, Fm.code [1, 1, 1]] XT.normal [(1, true, AV.ptr 0 0), (3, true, AV.int IntKind.i64 i3), (4, true, AV.int IntKind.i64 (IntKind.wrap IntKind.i64 (i4 + 1)))] [Blk.mem 25 [AV.int IntKind.i64 xk, AV.int IntKind.i64 xp, AV.str xt, AV.sl 3 xa none, AV.sl 5 xs none]]))) (ifP (decide ((↑(Nd.depth nd6) : Int) > i3)) (gAnd (lowVss 1 xa && true && (lowVss 1 xs && true && true) && true) (ToEnd cfg 23 (bodyOf Try.f23) (RetIs Try.prog Try.f23 v) [Fm.code [0, 1, 0, 1, 1], Fm.block 0, Fm.code [1, 1, 1]] XT.normal [(1, true, AV.ptr 0 0), (3, true, AV.int IntKind.i64 (↑(Nd.depth nd6) : Int)), (4, true, AV.int IntKind.i64 (IntKind.wrap IntKind.i64 (i4 + 1)))] [Blk.mem 25 [AV.int IntKind.i64 xk, AV.int IntKind.i64 xp, AV.str xt, AV.sl 3 xa none, AV.sl 5 xs none]])) (gAnd (lowVss 1 xa && true && (lowVss 1 xs && true && true) && true) (ToEnd cfg 23 (bodyOf Try.f23) (RetIs Try.prog Try.f23 v) [Fm.code [0, 1, 0, 1, 1], Fm.block 0, Fm.code [1, 1, 1]] XT.normal [(1, true, AV.ptr 0 0), (3, true, AV.int IntKind.i64 i3), (4, true, AV.int IntKind.i64 (IntKind.wrap IntKind.i64 (i4 + 1)))] [Blk.mem 25 [AV.int IntKind.i64 xk, AV.int IntKind.i64 xp, AV.str xt, AV.sl 3 xa none, AV.sl 5 xs none]])))))) (AV.int IntKind.i64 i3 = v)) :
    ToEnd cfg 23 (bodyOf Try.f23) (RetIs Try.prog Try.f23 v) ([.code [0, 1, 0, 1, 1], Fm.block 0, Fm.code [1, 1, 1]]) .normal ([(1, true, AV.ptr 0 0), (3, true, AV.int IntKind.i64 i3), (4, true, AV.int IntKind.i64 i4)]) ([Blk.mem 25 [AV.int IntKind.i64 xk, AV.int IntKind.i64 xp, AV.str xt, AV.sl 3 xa none, AV.sl 5 xs none]]) := by
  have e : unr cfg 23 (bodyOf Try.f23) (ctab [(23, depthC N)]) ⟨[[0, 1, 0, 1, 1]], [([0, 0, 0, 1, 0, 0, 1, 0, 1, 1], 3, [.int .i64, .int .i64, .str, .sl 3, .sl 5]), ([0, 0, 1, 0, 0, 1, 0, 0, 1, 0, 1, 1], 3, [.int .i64, .int .i64, .str, .sl 3, .sl 5])]⟩ (RetIs Try.prog Try.f23 v) 100000 ([.code [0, 0, 1, 0, 1, 1], .loop [0, 1, 0, 1, 1] 1, Fm.block 0, Fm.code [1, 1, 1]]) .normal ([(1, true, AV.ptr 0 0), (3, true, AV.int IntKind.i64 i3), (4, true, AV.int IntKind.i64 i4)]) ([Blk.mem 25 [AV.int IntKind.i64 xk, AV.int IntKind.i64 xp, AV.str xt, AV.sl 3 xa none, AV.sl 5 xs none]]) =
    (ifP (decide (i4 < (↑(List.length xs) : Int))) (gAnd (inR i4 (List.length xs) && true && true) (∃ (z1 : Int), ∃ (z2 : Int), ∃ (s3 : List UInt8), ∃ (es4 : List (List AV)), ∃ (es5 : List (List AV)), getE xs i4 = [AV.int IntKind.i64 z1, AV.int IntKind.i64 z2, AV.str s3, AV.sl 3 es4 none, AV.sl 5 es5 none] ∧ ∃ (nd6 : Nd), Nd.size nd6 < N ∧ [AV.agg [AV.int IntKind.i64 z1, AV.int IntKind.i64 z2, AV.str s3, AV.sl 3 (stripss 0 [] es4) none, AV.sl 5 (stripss 0 [] es5) none]] = [AV.agg (encN nd6)] ∧ gAnd (inR i4 (List.length xs) && true && true) (∃ (z7 : Int), ∃ (z8 : Int), ∃ (s9 : List UInt8), ∃ (es10 : List (List AV)), ∃ (es11 : List (List AV)), getE xs i4 = [AV.int IntKind.i64 z7, AV.int IntKind.i64 z8, AV.str s9, AV.sl 3 es10 none, AV.sl 5 es11 none] ∧ ifP (z7 != 2) (ifP (decide (IntKind.wrap IntKind.i64 ((↑(Nd.depth nd6) : Int) + 1) > i3)) (gAnd (lowVss 1 xa && true && (lowVss 1 xs && true && true) && true) (ToEnd cfg 23 (bodyOf Try.f23) (RetIs Try.prog Try.f23 v) [Fm.code [0, 1, 0, 1, 1], Fm.block 0, Fm.code [1, 1, 1]] XT.normal [(1, true, AV.ptr 0 0), (3, true, AV.int IntKind.i64 (IntKind.wrap IntKind.i64 ((↑(Nd.depth nd6) : Int) + 1))), (4, true, AV.int IntKind.i64 (IntKind.wrap IntKind.i64 (i4 + 1)))] [Blk.mem 25 [AV.int IntKind.i64 xk, AV.int IntKind.i64 xp, AV.str xt, AV.sl 3 xa none, AV.sl 5 xs none]])) (gAnd (lowVss 1 xa && true && (lowVss 1 xs && true && true) && true) (ToEnd cfg 23 (bodyOf Try.f23) (RetIs Try.prog Try.f23 v) [Fm.code [0, 1, 0, 1, 1], Fm.block 0, Fm.code [1, 1, 1]] XT.normal [(1, true, AV.ptr 0 0), (3, true, AV.int IntKind.i64 i3), (4, true, AV.int IntKind.i64 (IntKind.wrap IntKind.i64 (i4 + 1)))] [Blk.mem 25 [AV.int IntKind.i64 xk, AV.int IntKind.i64 xp, AV.str xt, AV.sl 3 xa none, AV.sl 5 xs none]]))) (ifP (decide ((↑(Nd.depth nd6) : Int) > i3)) (gAnd (lowVss 1 xa && true && (lowVss 1 xs && true && true) && true) (ToEnd cfg 23 (bodyOf Try.f23) (RetIs Try.prog Try.f23 v) [Fm.code [0, 1, 0, 1, 1], Fm.block 0, Fm.code [1, 1, 1]] XT.normal [(1, true, AV.ptr 0 0), (3, true, AV.int IntKind.i64 (↑(Nd.depth nd6) : Int)), (4, true, AV.int IntKind.i64 (IntKind.wrap IntKind.i64 (i4 + 1)))] [Blk.mem 25 [AV.int IntKind.i64 xk, AV.int IntKind.i64 xp, AV.str xt, AV.sl 3 xa none, AV.sl 5 xs none]])) (gAnd (lowVss 1 xa && true && (lowVss 1 xs && true && true) && true) (ToEnd cfg 23 (bodyOf Try.f23) (RetIs Try.prog Try.f23 v) [Fm.code [0, 1, 0, 1, 1], Fm.block 0, Fm.code [1, 1, 1]] XT.normal [(1, true, AV.ptr 0 0), (3, true, AV.int IntKind.i64 i3), (4, true, AV.int IntKind.i64 (IntKind.wrap IntKind.i64 (i4 + 1)))] [Blk.mem 25 [AV.int IntKind.i64 xk, AV.int IntKind.i64 xp, AV.str xt, AV.sl 3 xa none, AV.sl 5 xs none]])))))) (AV.int IntKind.i64 i3 = v)) := by kernel_rfl
  exact ends_round hT 100000 (by kernel_rfl) (e.mpr H)

theorem t19a {N : Nat} {v : AV} {xk xp : Int} {xt : List UInt8} {xa xs : List (List AV)} (hT : TabOk cfg (ctab [(19, depthC N)])) (H :
    ToEnd cfg 19 (bodyOf Try.f19) (RetIs Try.prog Try.f19 v) [Fm.code [0, 1, 0, 1, 1], Fm.block 0, Fm.code [1, 1, 1]] XT.normal [(3, true, AV.int IntKind.i64 0), (8, true, AV.sl 5 xs none), (9, true, AV.int IntKind.i64 (↑(List.length xs) : Int)), (10, true, AV.int IntKind.i64 0)] [Blk.mem 25 [AV.int IntKind.i64 xk, AV.int IntKind.i64 xp, AV.str xt, AV.sl 3 xa none, AV.sl 5 xs none]]) :
    ToEnd cfg 19 (bodyOf Try.f19) (RetIs Try.prog Try.f19 v) ([.code []]) .normal ([(0, true, .agg [.int .i64 xk, .int .i64 xp, .str xt, .sl 3 xa none, .sl 5 xs none])]) ([]) := by
  have e : unr cfg 19 (bodyOf Try.f19) (ctab [(19, depthC N)]) ⟨[[0, 1, 0, 1, 1]], [([0, 0, 0, 1, 1, 0, 0, 1, 0, 1, 1], 0, [.int .i64, .int .i64, .str, .sl 3, .sl 5])]⟩ (RetIs Try.prog Try.f19 v) 100000 ([.code []]) .normal ([(0, true, .agg [.int .i64 xk, .int .i64 xp, .str xt, .sl 3 xa none, .sl 5 xs none])]) ([]) =
    (ToEnd cfg 19 (bodyOf Try.f19) (RetIs Try.prog Try.f19 v) [Fm.code [0, 1, 0, 1, 1], Fm.block 0, Fm.code [1, 1, 1]] XT.normal [(3, true, AV.int IntKind.i64 0), (8, true, AV.sl 5 xs none), (9, true, AV.int IntKind.i64 (↑(List.length xs) : Int)), (10, true, AV.int IntKind.i64 0)] [Blk.mem 25 [AV.int IntKind.i64 xk, AV.int IntKind.i64 xp, AV.str xt, AV.sl 3 xa none, AV.sl 5 xs none]]) := by kernel_rfl
  exact unr_ok hT 100000 _ _ _ _ (e.mpr H)

theorem t19b {N : Nat} {v : AV} {xk xp : Int} {xt : List UInt8} {xa xs : List (List AV)} {i3 : Int} {i9 : Int} {i10 : Int} (hT : TabOk cfg (ctab [(19, depthC N)])) (H :
    ifP (decide (i10 < i9)) (gAnd (inR i10 (List.length xs) && true && true) (∃ (z1 : Int), ∃ (z2 : Int), ∃ (s3 : List UInt8), ∃ (es4 : List (List AV)), ∃ (es5 : List (List AV)), getE xs i10 = [AV.int IntKind.i64 z1, AV.int IntKind.i64 z2, AV.str s3, AV.sl 3 es4 none, AV.sl 5 es5 none] ∧ ∃ (nd6 : Nd), Nd.size nd6 < N ∧ [AV.agg [AV.int IntKind.i64 z1, AV.int IntKind.i64 z2, AV.str s3, AV.sl 3 (stripss 0 [] es4) none, AV.sl 5 (stripss 0 [] es5) none]] = [AV.agg (encN nd6)] ∧ ifP (z1 != 2) (gAnd (lowVss 1 xs && true && true && (lowVss 1 xa && true && (lowVss 1 xs && true && true) && true)) (ToEnd cfg 19 (bodyOf Try.f19) (RetIs Try.prog Try.f19 v) [Fm.code [0, 1, 0, 1, 1], Fm.block 0, Fm.code [1, 1, 1]] XT.normal [(3, true, AV.int IntKind.i64 (max i3 (IntKind.wrap IntKind.i64 ((↑(Nd.depth nd6) : Int) + 1)))), (8, true, AV.sl 5 xs none), (9, true, AV.int IntKind.i64 i9), (10, true, AV.int IntKind.i64 (IntKind.wrap IntKind.i64 (i10 + 1)))] [Blk.mem 25 [AV.int IntKind.i64 xk, AV.int IntKind.i64 xp, AV.str xt, AV.sl 3 xa none, AV.sl 5 xs none]])) (gAnd (lowVss 1 xs && true && true && (lowVss 1 xa && true && (lowVss 1 xs && true && true) && true)) (ToEnd cfg 19 (bodyOf Try.f19) (RetIs Try.prog Try.f19 v) [Fm.code [0, 1, 0, 1, 1], Fm.block 0, Fm.code [1, 1, 1]] XT.normal [(3, true, AV.int IntKind.i64 (max i3 (↑(Nd.depth nd6) : Int))), (8, true, AV.sl 5 xs none), (9, true, AV.int IntKind.i64 i9), (10, true, AV.int IntKind.i64 (IntKind.wrap IntKind.i64 (i10 + 1)))] [Blk.mem 25 [AV.int IntKind.i64 xk, AV.int IntKind.i64 xp, AV.str xt, AV.sl 3 xa none, AV.sl 5 xs none]])))) (AV.int IntKind.i64 i3 = v)) :
    ToEnd cfg 19 (bodyOf Try.f19) (RetIs Try.prog Try.f19 v) ([.code [0, 1, 0, 1, 1], Fm.block 0, Fm.code [1, 1, 1]]) .normal ([(3, true, AV.int IntKind.i64 i3), (8, true, AV.sl 5 xs none), (9, true, AV.int IntKind.i64 i9), (10, true, AV.int IntKind.i64 i10)]) ([Blk.mem 25 [AV.int IntKind.i64 xk, AV.int IntKind.i64 xp, AV.str xt, AV.sl 3 xa none, AV.sl 5 xs none]]) := by
  have e : unr cfg 19 (bodyOf Try.f19) (ctab [(19, depthC N)]) ⟨[[0, 1, 0, 1, 1]], [([0, 0, 0, 1, 1, 0, 0, 1, 0, 1, 1], 0, [.int .i64, .int .i64, .str, .sl 3, .sl 5])]⟩ (RetIs Try.prog Try.f19 v) 100000 ([.code [0, 0, 1, 0, 1, 1], .loop [0, 1, 0, 1, 1] 1, Fm.block 0, Fm.code [1, 1, 1]]) .normal ([(3, true, AV.int IntKind.i64 i3), (8, true, AV.sl 5 xs none), (9, true, AV.int IntKind.i64 i9), (10, true, AV.int IntKind.i64 i10)]) ([Blk.mem 25 [AV.int IntKind.i64 xk, AV.int IntKind.i64 xp, AV.str xt, AV.sl 3 xa none, AV.sl 5 xs none]]) =
    (ifP (decide (i10 < i9)) (gAnd (inR i10 (List.length xs) && true && true) (∃ (z1 : Int), ∃ (z2 : Int), ∃ (s3 : List UInt8), ∃ (es4 : List (List AV)), ∃ (es5 : List (List AV)), getE xs i10 = [AV.int IntKind.i64 z1, AV.int IntKind.i64 z2, AV.str s3, AV.sl 3 es4 none, AV.sl 5 es5 none] ∧ ∃ (nd6 : Nd), Nd.size nd6 < N ∧ [AV.agg [AV.int IntKind.i64 z1, AV.int IntKind.i64 z2, AV.str s3, AV.sl 3 (stripss 0 [] es4) none, AV.sl 5 (stripss 0 [] es5) none]] = [AV.agg (encN nd6)] ∧ ifP (z1 != 2) (gAnd (lowVss 1 xs && true && true && (lowVss 1 xa && true && (lowVss 1 xs && true && true) && true)) (ToEnd cfg 19 (bodyOf Try.f19) (RetIs Try.prog Try.f19 v) [Fm.code [0, 1, 0, 1, 1], Fm.block 0, Fm.code [1, 1, 1]] XT.normal [(3, true, AV.int IntKind.i64 (max i3 (IntKind.wrap IntKind.i64 ((↑(Nd.depth nd6) : Int) + 1)))), (8, true, AV.sl 5 xs none), (9, true, AV.int IntKind.i64 i9), (10, true, AV.int IntKind.i64 (IntKind.wrap IntKind.i64 (i10 + 1)))] [Blk.mem 25 [AV.int IntKind.i64 xk, AV.int IntKind.i64 xp, AV.str xt, AV.sl 3 xa none, AV.sl 5 xs none]])) (gAnd (lowVss 1 xs && true && true && (lowVss 1 xa && true && (lowVss 1 xs && true && true) && true)) (ToEnd cfg 19 (bodyOf Try.f19) (RetIs Try.prog Try.f19 v) [Fm.code [0, 1, 0, 1, 1], Fm.block 0, Fm.code [1, 1, 1]] XT.normal [(3, true, AV.int IntKind.i64 (max i3 (↑(Nd.depth nd6) : Int))), (8, true, AV.sl 5 xs none), (9, true, AV.int IntKind.i64 i9), (10, true, AV.int IntKind.i64 (IntKind.wrap IntKind.i64 (i10 + 1)))] [Blk.mem 25 [AV.int IntKind.i64 xk, AV.int IntKind.i64 xp, AV.str xt, AV.sl 3 xa none, AV.sl 5 xs none]])))) (AV.int IntKind.i64 i3 = v)) := by kernel_rfl
  exact ends_round hT 100000 (by kernel_rfl) (e.mpr H)

theorem t25a {N : Nat} {v : AV} {xk xp : Int} {xt : List UInt8} {xa xs : List (List AV)} {l : Int} (hT : TabOk cfg (ctab [(25, leftC N)])) (H :
    ToEnd cfg 25 (bodyOf Try.f25) (RetIs Try.prog Try.f25 v) [Fm.code [0, 1, 0, 1, 1], Fm.block 0, Fm.code [1, 1, 1]] XT.normal [(1, true, AV.int IntKind.i64 (IntKind.wrap IntKind.i64 (IntKind.wrap IntKind.i64 (l - 1) - IntKind.wrap IntKind.i64 (Int.tdiv (↑(List.length xt) : Int) 20)))), (2, true, AV.ptr 0 0), (5, true, AV.int IntKind.i64 0)] [Blk.mem 25 [AV.int IntKind.i64 xk, AV.int IntKind.i64 xp, AV.str xt, AV.sl 3 xa none, AV.sl 5 xs none]]) :
    ToEnd cfg 25 (bodyOf Try.f25) (RetIs Try.prog Try.f25 v) ([.code []]) .normal ([(0, true, .agg [.int .i64 xk, .int .i64 xp, .str xt, .sl 3 xa none, .sl 5 xs none]), (1, true, .int .i64 l)]) ([]) := by
  have e : unr cfg 25 (bodyOf Try.f25) (ctab [(25, leftC N)]) ⟨[[0, 1, 0, 1, 1], [0, 1, 0, 1, 1, 1]], [([0, 0, 1, 0, 0, 1, 0, 1, 1], 5, [.str, .str, .int .i64]), ([0, 0, 1, 0, 0, 1, 0, 1, 1], 14, [.str, .str, .int .i64]), ([0, 0, 1, 0, 0, 1, 0, 1, 1, 1], 3, [.int .i64, .int .i64, .str, .sl 3, .sl 5])]⟩ (RetIs Try.prog Try.f25 v) 100000 ([.code []]) .normal ([(0, true, .agg [.int .i64 xk, .int .i64 xp, .str xt, .sl 3 xa none, .sl 5 xs none]), (1, true, .int .i64 l)]) ([]) =
    (ToEnd cfg 25 (bodyOf Try.f25) (RetIs Try.prog Try.f25 v) [Fm.code [0, 1, 0, 1, 1], Fm.block 0, Fm.code [1, 1, 1]] XT.normal [(1, true, AV.int IntKind.i64 (IntKind.wrap IntKind.i64 (IntKind.wrap IntKind.i64 (l - 1) - IntKind.wrap IntKind.i64 (Int.tdiv (↑(List.length xt) : Int) 20)))), (2, true, AV.ptr 0 0), (5, true, AV.int IntKind.i64 0)] [Blk.mem 25 [AV.int IntKind.i64 xk, AV.int IntKind.i64 xp, AV.str xt, AV.sl 3 xa none, AV.sl 5 xs none]]) := by kernel_rfl
  exact unr_ok hT 100000 _ _ _ _ (e.mpr H)

theorem t25b {N : Nat} {v : AV} {xk xp : Int} {xt : List UInt8} {xa xs : List (List AV)}  {i1 : Int} {i5 : Int} (hT : TabOk cfg (ctab [(25, leftC N)])) (H :
    ifP (decide (i5 < (↑(List.length xa) : Int))) (ifP (decide (i1 > 0)) (gAnd (inR i5 (List.length xa) && true && true) (∃ (s1 : List UInt8), ∃ (s2 : List UInt8), ∃ (z3 : Int), getE xa i5 = [AV.str s1, AV.str s2, AV.int IntKind.i64 z3] ∧ gAnd (inR i5 (List.length xa) && true && true) (∃ (s4 : List UInt8), ∃ (s5 : List UInt8), ∃ (z6 : Int), getE xa i5 = [AV.str s4, AV.str s5, AV.int IntKind.i64 z6] ∧ gAnd (lowVss 1 xa && true && (lowVss 1 xs && true && true) && true) (ToEnd cfg 25 (bodyOf Try.f25) (RetIs Try.prog Try.f25 v) [Fm.code [0, 1, 0, 1, 1], Fm.block 0, Fm.code [1, 1, 1]] XT.normal [(1, true, AV.int IntKind.i64 (IntKind.wrap IntKind.i64 (IntKind.wrap IntKind.i64 (IntKind.wrap IntKind.i64 (i1 - 1) - IntKind.wrap IntKind.i64 (Int.tdiv (↑(List.length s1) : Int) 20)) - IntKind.wrap IntKind.i64 (Int.tdiv (↑(List.length s5) : Int) 20)))), (2, true, AV.ptr 0 0), (5, true, AV.int IntKind.i64 (IntKind.wrap IntKind.i64 (i5 + 1)))] [Blk.mem 25 [AV.int IntKind.i64 xk, AV.int IntKind.i64 xp, AV.str xt, AV.sl 3 xa none, AV.sl 5 xs none]])))) (ToEnd cfg 25 (bodyOf Try.f25) (RetIs Try.prog Try.f25 v) [Fm.code [0, 1, 0, 1, 1, 1], Fm.block 2, Fm.code [1, 1, 1, 1]] XT.normal [(1, true, AV.int IntKind.i64 i1), (2, true, AV.ptr 0 0), (6, true, AV.int IntKind.i64 0)] [Blk.mem 25 [AV.int IntKind.i64 xk, AV.int IntKind.i64 xp, AV.str xt, AV.sl 3 xa none, AV.sl 5 xs none]])) (ToEnd cfg 25 (bodyOf Try.f25) (RetIs Try.prog Try.f25 v) [Fm.code [0, 1, 0, 1, 1, 1], Fm.block 2, Fm.code [1, 1, 1, 1]] XT.normal [(1, true, AV.int IntKind.i64 i1), (2, true, AV.ptr 0 0), (6, true, AV.int IntKind.i64 0)] [Blk.mem 25 [AV.int IntKind.i64 xk, AV.int IntKind.i64 xp, AV.str xt, AV.sl 3 xa none, AV.sl 5 xs none]])) :
    ToEnd cfg 25 (bodyOf Try.f25) (RetIs Try.prog Try.f25 v) ([.code [0, 1, 0, 1, 1], Fm.block 0, Fm.code [1, 1, 1]]) .normal ([(1, true, AV.int IntKind.i64 i1), (2, true, AV.ptr 0 0), (5, true, AV.int IntKind.i64 i5)]) ([Blk.mem 25 [AV.int IntKind.i64 xk, AV.int IntKind.i64 xp, AV.str xt, AV.sl 3 xa none, AV.sl 5 xs none]]) := by
  have e : unr cfg 25 (bodyOf Try.f25) (ctab [(25, leftC N)]) ⟨[[0, 1, 0, 1, 1], [0, 1, 0, 1, 1, 1]], [([0, 0, 1, 0, 0, 1, 0, 1, 1], 5, [.str, .str, .int .i64]), ([0, 0, 1, 0, 0, 1, 0, 1, 1], 14, [.str, .str, .int .i64]), ([0, 0, 1, 0, 0, 1, 0, 1, 1, 1], 3, [.int .i64, .int .i64, .str, .sl 3, .sl 5])]⟩ (RetIs Try.prog Try.f25 v) 100000 ([.code [0, 0, 1, 0, 1, 1], .loop [0, 1, 0, 1, 1] 1, Fm.block 0, Fm.code [1, 1, 1]]) .normal ([(1, true, AV.int IntKind.i64 i1), (2, true, AV.ptr 0 0), (5, true, AV.int IntKind.i64 i5)]) ([Blk.mem 25 [AV.int IntKind.i64 xk, AV.int IntKind.i64 xp, AV.str xt, AV.sl 3 xa none, AV.sl 5 xs none]]) =
    (ifP (decide (i5 < (↑(List.length xa) : Int))) (ifP (decide (i1 > 0)) (gAnd (inR i5 (List.length xa) && true && true) (∃ (s1 : List UInt8), ∃ (s2 : List UInt8), ∃ (z3 : Int), getE xa i5 = [AV.str s1, AV.str s2, AV.int IntKind.i64 z3] ∧ gAnd (inR i5 (List.length xa) && true && true) (∃ (s4 : List UInt8), ∃ (s5 : List UInt8), ∃ (z6 : Int), getE xa i5 = [AV.str s4, AV.str s5, AV.int IntKind.i64 z6] ∧ gAnd (lowVss 1 xa && true && (lowVss 1 xs && true && true) && true) (ToEnd cfg 25 (bodyOf Try.f25) (RetIs Try.prog Try.f25 v) [Fm.code [0, 1, 0, 1, 1], Fm.block 0, Fm.code [1, 1, 1]] XT.normal [(1, true, AV.int IntKind.i64 (IntKind.wrap IntKind.i64 (IntKind.wrap IntKind.i64 (IntKind.wrap IntKind.i64 (i1 - 1) - IntKind.wrap IntKind.i64 (Int.tdiv (↑(List.length s1) : Int) 20)) - IntKind.wrap IntKind.i64 (Int.tdiv (↑(List.length s5) : Int) 20)))), (2, true, AV.ptr 0 0), (5, true, AV.int IntKind.i64 (IntKind.wrap IntKind.i64 (i5 + 1)))] [Blk.mem 25 [AV.int IntKind.i64 xk, AV.int IntKind.i64 xp, AV.str xt, AV.sl 3 xa none, AV.sl 5 xs none]])))) (ToEnd cfg 25 (bodyOf Try.f25) (RetIs Try.prog Try.f25 v) [Fm.code [0, 1, 0, 1, 1, 1], Fm.block 2, Fm.code [1, 1, 1, 1]] XT.normal [(1, true, AV.int IntKind.i64 i1), (2, true, AV.ptr 0 0), (6, true, AV.int IntKind.i64 0)] [Blk.mem 25 [AV.int IntKind.i64 xk, AV.int IntKind.i64 xp, AV.str xt, AV.sl 3 xa none, AV.sl 5 xs none]])) (ToEnd cfg 25 (bodyOf Try.f25) (RetIs Try.prog Try.f25 v) [Fm.code [0, 1, 0, 1, 1, 1], Fm.block 2, Fm.code [1, 1, 1, 1]] XT.normal [(1, true, AV.int IntKind.i64 i1), (2, true, AV.ptr 0 0), (6, true, AV.int IntKind.i64 0)] [Blk.mem 25 [AV.int IntKind.i64 xk, AV.int IntKind.i64 xp, AV.str xt, AV.sl 3 xa none, AV.sl 5 xs none]])) := by kernel_rfl
  exact ends_round hT 100000 (by kernel_rfl) (e.mpr H)

theorem t25c {N : Nat} {v : AV} {xk xp : Int} {xt : List UInt8} {xa xs : List (List AV)}  {i1 : Int}  {i6 : Int} (hT : TabOk cfg (ctab [(25, leftC N)])) (H :
    ifP (decide (i6 < (↑(List.length xs) : Int))) (ifP (decide (i1 > 0)) (gAnd (inR i6 (List.length xs) && true && true) (∃ (z1 : Int), ∃ (z2 : Int), ∃ (s3 : List UInt8), ∃ (es4 : List (List AV)), ∃ (es5 : List (List AV)), getE xs i6 = [AV.int IntKind.i64 z1, AV.int IntKind.i64 z2, AV.str s3, AV.sl 3 es4 none, AV.sl 5 es5 none] ∧ ∃ (nd6 : Nd), ∃ (l7 : Int), Nd.size nd6 < N ∧ Nd.fit nd6 ∧ 0 < l7 ∧ l7 ≤ 600 ∧ [AV.agg [AV.int IntKind.i64 z1, AV.int IntKind.i64 z2, AV.str s3, AV.sl 3 (stripss 0 [] es4) none, AV.sl 5 (stripss 0 [] es5) none], AV.int IntKind.i64 i1] = [AV.agg (encN nd6), AV.int IntKind.i64 l7] ∧ gAnd (lowVss 1 xa && true && (lowVss 1 xs && true && true) && true) (ToEnd cfg 25 (bodyOf Try.f25) (RetIs Try.prog Try.f25 v) [Fm.code [0, 1, 0, 1, 1, 1], Fm.block 2, Fm.code [1, 1, 1, 1]] XT.normal [(1, true, AV.int IntKind.i64 (Nd.left nd6 l7)), (2, true, AV.ptr 0 0), (6, true, AV.int IntKind.i64 (IntKind.wrap IntKind.i64 (i6 + 1)))] [Blk.mem 25 [AV.int IntKind.i64 xk, AV.int IntKind.i64 xp, AV.str xt, AV.sl 3 xa none, AV.sl 5 xs none]]))) (AV.int IntKind.i64 i1 = v)) (AV.int IntKind.i64 i1 = v)) :
    ToEnd cfg 25 (bodyOf Try.f25) (RetIs Try.prog Try.f25 v) ([.code [0, 1, 0, 1, 1, 1], Fm.block 2, Fm.code [1, 1, 1, 1]]) .normal ([(1, true, AV.int IntKind.i64 i1), (2, true, AV.ptr 0 0), (6, true, AV.int IntKind.i64 i6)]) ([Blk.mem 25 [AV.int IntKind.i64 xk, AV.int IntKind.i64 xp, AV.str xt, AV.sl 3 xa none, AV.sl 5 xs none]]) := by
  have e : unr cfg 25 (bodyOf Try.f25) (ctab [(25, leftC N)]) ⟨[[0, 1, 0, 1, 1], [0, 1, 0, 1, 1, 1]], [([0, 0, 1, 0, 0, 1, 0, 1, 1], 5, [.str, .str, .int .i64]), ([0, 0, 1, 0, 0, 1, 0, 1, 1], 14, [.str, .str, .int .i64]), ([0, 0, 1, 0, 0, 1, 0, 1, 1, 1], 3, [.int .i64, .int .i64, .str, .sl 3, .sl 5])]⟩ (RetIs Try.prog Try.f25 v) 100000 ([.code [0, 0, 1, 0, 1, 1, 1], .loop [0, 1, 0, 1, 1, 1] 1, Fm.block 2, Fm.code [1, 1, 1, 1]]) .normal ([(1, true, AV.int IntKind.i64 i1), (2, true, AV.ptr 0 0), (6, true, AV.int IntKind.i64 i6)]) ([Blk.mem 25 [AV.int IntKind.i64 xk, AV.int IntKind.i64 xp, AV.str xt, AV.sl 3 xa none, AV.sl 5 xs none]]) =
    (ifP (decide (i6 < (↑(List.length xs) : Int))) (ifP (decide (i1 > 0)) (gAnd (inR i6 (List.length xs) && true && true) (∃ (z1 : Int), ∃ (z2 : Int), ∃ (s3 : List UInt8), ∃ (es4 : List (List AV)), ∃ (es5 : List (List AV)), getE xs i6 = [AV.int IntKind.i64 z1, AV.int IntKind.i64 z2, AV.str s3, AV.sl 3 es4 none, AV.sl 5 es5 none] ∧ ∃ (nd6 : Nd), ∃ (l7 : Int), Nd.size nd6 < N ∧ Nd.fit nd6 ∧ 0 < l7 ∧ l7 ≤ 600 ∧ [AV.agg [AV.int IntKind.i64 z1, AV.int IntKind.i64 z2, AV.str s3, AV.sl 3 (stripss 0 [] es4) none, AV.sl 5 (stripss 0 [] es5) none], AV.int IntKind.i64 i1] = [AV.agg (encN nd6), AV.int IntKind.i64 l7] ∧ gAnd (lowVss 1 xa && true && (lowVss 1 xs && true && true) && true) (ToEnd cfg 25 (bodyOf Try.f25) (RetIs Try.prog Try.f25 v) [Fm.code [0, 1, 0, 1, 1, 1], Fm.block 2, Fm.code [1, 1, 1, 1]] XT.normal [(1, true, AV.int IntKind.i64 (Nd.left nd6 l7)), (2, true, AV.ptr 0 0), (6, true, AV.int IntKind.i64 (IntKind.wrap IntKind.i64 (i6 + 1)))] [Blk.mem 25 [AV.int IntKind.i64 xk, AV.int IntKind.i64 xp, AV.str xt, AV.sl 3 xa none, AV.sl 5 xs none]]))) (AV.int IntKind.i64 i1 = v)) (AV.int IntKind.i64 i1 = v)) := by kernel_rfl
  exact ends_round hT 100000 (by kernel_rfl) (e.mpr H)

theorem t7a {N : Nat} {v : AV} {xk xp : Int} {xt : List UInt8} {xa xs : List (List AV)} (hT : TabOk cfg (ctab [(25, leftC N)])) (H :
    ∃ (nd1 : Nd), ∃ (l2 : Int), Nd.size nd1 < N ∧ Nd.fit nd1 ∧ 0 < l2 ∧ l2 ≤ 600 ∧ [AV.agg [AV.int IntKind.i64 xk, AV.int IntKind.i64 xp, AV.str xt, AV.sl 3 (stripss 0 [] xa) none, AV.sl 5 (stripss 0 [] xs) none], AV.int IntKind.i64 600] = [AV.agg (encN nd1), AV.int IntKind.i64 l2] ∧ AV.bool (decide (Nd.left nd1 l2 > 0)) = v) :
    ToEnd cfg 7 (bodyOf Try.f7) (RetIs Try.prog Try.f7 v) ([.code []]) .normal ([(0, true, .agg [.int .i64 xk, .int .i64 xp, .str xt, .sl 3 xa none, .sl 5 xs none])]) ([]) := by
  have e : unr cfg 7 (bodyOf Try.f7) (ctab [(25, leftC N)]) ⟨[], []⟩ (RetIs Try.prog Try.f7 v) 100000 ([.code []]) .normal ([(0, true, .agg [.int .i64 xk, .int .i64 xp, .str xt, .sl 3 xa none, .sl 5 xs none])]) ([]) =
    (∃ (nd1 : Nd), ∃ (l2 : Int), Nd.size nd1 < N ∧ Nd.fit nd1 ∧ 0 < l2 ∧ l2 ≤ 600 ∧ [AV.agg [AV.int IntKind.i64 xk, AV.int IntKind.i64 xp, AV.str xt, AV.sl 3 (stripss 0 [] xa) none, AV.sl 5 (stripss 0 [] xs) none], AV.int IntKind.i64 600] = [AV.agg (encN nd1), AV.int IntKind.i64 l2] ∧ AV.bool (decide (Nd.left nd1 l2 > 0)) = v) := by kernel_rfl
  exact unr_ok hT 100000 _ _ _ _ (e.mpr H)

theorem t22a  {v : AV} {xk xp : Int} {xt : List UInt8} {xa xs : List (List AV)} {nm : List UInt8} (hT : TabOk cfg (ctab [])) (H :
    ToEnd cfg 22 (bodyOf Try.f22) (RetIs Try.prog Try.f22 v) [Fm.code [0, 1, 0, 1], Fm.block 0, Fm.code [1, 1]] XT.normal [(1, true, AV.str nm), (2, true, AV.ptr 0 0), (6, true, AV.int IntKind.i64 0)] [Blk.mem 25 [AV.int IntKind.i64 xk, AV.int IntKind.i64 xp, AV.str xt, AV.sl 3 xa none, AV.sl 5 xs none]]) :
    ToEnd cfg 22 (bodyOf Try.f22) (RetIs Try.prog Try.f22 v) ([.code []]) .normal ([(0, true, .agg [.int .i64 xk, .int .i64 xp, .str xt, .sl 3 xa none, .sl 5 xs none]), (1, true, .str nm)]) ([]) := by
  have e : unr cfg 22 (bodyOf Try.f22) (ctab []) ⟨[[0, 1, 0, 1]], [([0, 0, 0, 1, 0, 0, 1, 0, 1], 3, [.str, .str, .int .i64]), ([0, 0, 1, 0, 0, 1, 0, 0, 1, 0, 1], 3, [.str, .str, .int .i64])]⟩ (RetIs Try.prog Try.f22 v) 100000 ([.code []]) .normal ([(0, true, .agg [.int .i64 xk, .int .i64 xp, .str xt, .sl 3 xa none, .sl 5 xs none]), (1, true, .str nm)]) ([]) =
    (ToEnd cfg 22 (bodyOf Try.f22) (RetIs Try.prog Try.f22 v) [Fm.code [0, 1, 0, 1], Fm.block 0, Fm.code [1, 1]] XT.normal [(1, true, AV.str nm), (2, true, AV.ptr 0 0), (6, true, AV.int IntKind.i64 0)] [Blk.mem 25 [AV.int IntKind.i64 xk, AV.int IntKind.i64 xp, AV.str xt, AV.sl 3 xa none, AV.sl 5 xs none]]) := by kernel_rfl
  exact unr_ok hT 100000 _ _ _ _ (e.mpr H)

theorem t22b  {v : AV} {xk xp : Int} {xt : List UInt8} {xa xs : List (List AV)}  {s1 : List UInt8} {i6 : Int} (hT : TabOk cfg (ctab [])) (H :
    ifP (decide (i6 < (↑(List.length xa) : Int))) (gAnd (inR i6 (List.length xa) && true && true) (∃ (s1_1 : List UInt8), ∃ (s2 : List UInt8), ∃ (z3 : Int), getE xa i6 = [AV.str s1_1, AV.str s2, AV.int IntKind.i64 z3] ∧ ifP (s1_1 == s1) (gAnd (inR i6 (List.length xa) && true && true) (∃ (s4 : List UInt8), ∃ (s5 : List UInt8), ∃ (z6 : Int), getE xa i6 = [AV.str s4, AV.str s5, AV.int IntKind.i64 z6] ∧ AV.tup [AV.str s5, AV.bool true] = v)) (gAnd (lowVss 1 xa && true && (lowVss 1 xs && true && true) && true) (ToEnd cfg 22 (bodyOf Try.f22) (RetIs Try.prog Try.f22 v) [Fm.code [0, 1, 0, 1], Fm.block 0, Fm.code [1, 1]] XT.normal [(1, true, AV.str s1), (2, true, AV.ptr 0 0), (6, true, AV.int IntKind.i64 (IntKind.wrap IntKind.i64 (i6 + 1)))] [Blk.mem 25 [AV.int IntKind.i64 xk, AV.int IntKind.i64 xp, AV.str xt, AV.sl 3 xa none, AV.sl 5 xs none]])))) (AV.tup [AV.str [], AV.bool false] = v)) :
    ToEnd cfg 22 (bodyOf Try.f22) (RetIs Try.prog Try.f22 v) ([.code [0, 1, 0, 1], Fm.block 0, Fm.code [1, 1]]) .normal ([(1, true, AV.str s1), (2, true, AV.ptr 0 0), (6, true, AV.int IntKind.i64 i6)]) ([Blk.mem 25 [AV.int IntKind.i64 xk, AV.int IntKind.i64 xp, AV.str xt, AV.sl 3 xa none, AV.sl 5 xs none]]) := by
  have e : unr cfg 22 (bodyOf Try.f22) (ctab []) ⟨[[0, 1, 0, 1]], [([0, 0, 0, 1, 0, 0, 1, 0, 1], 3, [.str, .str, .int .i64]), ([0, 0, 1, 0, 0, 1, 0, 0, 1, 0, 1], 3, [.str, .str, .int .i64])]⟩ (RetIs Try.prog Try.f22 v) 100000 ([.code [0, 0, 1, 0, 1], .loop [0, 1, 0, 1] 1, Fm.block 0, Fm.code [1, 1]]) .normal ([(1, true, AV.str s1), (2, true, AV.ptr 0 0), (6, true, AV.int IntKind.i64 i6)]) ([Blk.mem 25 [AV.int IntKind.i64 xk, AV.int IntKind.i64 xp, AV.str xt, AV.sl 3 xa none, AV.sl 5 xs none]]) =
    (ifP (decide (i6 < (↑(List.length xa) : Int))) (gAnd (inR i6 (List.length xa) && true && true) (∃ (s1_1 : List UInt8), ∃ (s2 : List UInt8), ∃ (z3 : Int), getE xa i6 = [AV.str s1_1, AV.str s2, AV.int IntKind.i64 z3] ∧ ifP (s1_1 == s1) (gAnd (inR i6 (List.length xa) && true && true) (∃ (s4 : List UInt8), ∃ (s5 : List UInt8), ∃ (z6 : Int), getE xa i6 = [AV.str s4, AV.str s5, AV.int IntKind.i64 z6] ∧ AV.tup [AV.str s5, AV.bool true] = v)) (gAnd (lowVss 1 xa && true && (lowVss 1 xs && true && true) && true) (ToEnd cfg 22 (bodyOf Try.f22) (RetIs Try.prog Try.f22 v) [Fm.code [0, 1, 0, 1], Fm.block 0, Fm.code [1, 1]] XT.normal [(1, true, AV.str s1), (2, true, AV.ptr 0 0), (6, true, AV.int IntKind.i64 (IntKind.wrap IntKind.i64 (i6 + 1)))] [Blk.mem 25 [AV.int IntKind.i64 xk, AV.int IntKind.i64 xp, AV.str xt, AV.sl 3 xa none, AV.sl 5 xs none]])))) (AV.tup [AV.str [], AV.bool false] = v)) := by kernel_rfl
  exact ends_round hT 100000 (by kernel_rfl) (e.mpr H)

theorem t30a {v : AV} {an av bn bv : List UInt8} {ai bi : Int} (hT : TabOk cfg (ctab [])) (H :
    ifP (an == bn) (AV.bool (av == bv) = v) (AV.bool false = v)) :
    ToEnd cfg 30 (bodyOf Try.f30) (RetIs Try.prog Try.f30 v) ([.code []]) .normal ([(0, true, .agg [.str an, .str av, .int .i64 ai]), (1, true, .agg [.str bn, .str bv, .int .i64 bi])]) ([]) := by
  have e : unr cfg 30 (bodyOf Try.f30) (ctab []) ⟨[], []⟩ (RetIs Try.prog Try.f30 v) 100000 ([.code []]) .normal ([(0, true, .agg [.str an, .str av, .int .i64 ai]), (1, true, .agg [.str bn, .str bv, .int .i64 bi])]) ([]) =
    (ifP (an == bn) (AV.bool (av == bv) = v) (AV.bool false = v)) := by kernel_rfl
  exact unr_ok hT 100000 _ _ _ _ (e.mpr H)

theorem t31a {v : AV} {ea eb : List (List AV)} (hT : TabOk cfg (ctab [(30, alikeC)])) (H :
    ifP ((↑(List.length ea) : Int) != (↑(List.length eb) : Int)) (AV.bool false = v) (ToEnd cfg 31 (bodyOf Try.f31) (RetIs Try.prog Try.f31 v) [Fm.code [0, 1, 0, 1, 1], Fm.block 0, Fm.code [1, 1, 1]] XT.normal [(1, true, AV.sl 3 eb none), (2, true, AV.fn (Fn.func 30) [] []), (15, true, AV.sl 3 ea none), (16, true, AV.int IntKind.i64 (↑(List.length ea) : Int)), (17, true, AV.int IntKind.i64 0)] [])) :
    ToEnd cfg 31 (bodyOf Try.f31) (RetIs Try.prog Try.f31 v) ([.code []]) .normal ([(0, true, .sl 3 ea none), (1, true, .sl 3 eb none), (2, true, .fn (.func 30) [] [])]) ([]) := by
  have e : unr cfg 31 (bodyOf Try.f31) (ctab [(30, alikeC)]) ⟨[[0, 1, 0, 1, 1]], [([0, 0, 0, 1, 1, 0, 0, 1, 0, 1, 1], 1, [.str, .str, .int .i64]), ([0, 1, 0, 0, 1, 1, 0, 0, 1, 0, 1, 1], 2, [.str, .str, .int .i64])]⟩ (RetIs Try.prog Try.f31 v) 100000 ([.code []]) .normal ([(0, true, .sl 3 ea none), (1, true, .sl 3 eb none), (2, true, .fn (.func 30) [] [])]) ([]) =
    (ifP ((↑(List.length ea) : Int) != (↑(List.length eb) : Int)) (AV.bool false = v) (ToEnd cfg 31 (bodyOf Try.f31) (RetIs Try.prog Try.f31 v) [Fm.code [0, 1, 0, 1, 1], Fm.block 0, Fm.code [1, 1, 1]] XT.normal [(1, true, AV.sl 3 eb none), (2, true, AV.fn (Fn.func 30) [] []), (15, true, AV.sl 3 ea none), (16, true, AV.int IntKind.i64 (↑(List.length ea) : Int)), (17, true, AV.int IntKind.i64 0)] [])) := by kernel_rfl
  exact unr_ok hT 100000 _ _ _ _ (e.mpr H)

theorem t31b {v : AV} {ea eb : List (List AV)} {i16 : Int} {i17 : Int} (hT : TabOk cfg (ctab [(30, alikeC)])) (H :
    ifP (decide (i17 < i16)) (gAnd (inR i17 (List.length ea) && true && true) (∃ (s1 : List UInt8), ∃ (s2 : List UInt8), ∃ (z3 : Int), getE ea i17 = [AV.str s1, AV.str s2, AV.int IntKind.i64 z3] ∧ gAnd (inR i17 (List.length eb) && true && true) (∃ (s4 : List UInt8), ∃ (s5 : List UInt8), ∃ (z6 : Int), getE eb i17 = [AV.str s4, AV.str s5, AV.int IntKind.i64 z6] ∧ ∃ (a7 : Att), ∃ (b8 : Att), [AV.agg [AV.str s1, AV.str s2, AV.int IntKind.i64 z3], AV.agg [AV.str s4, AV.str s5, AV.int IntKind.i64 z6]] = [AV.agg [AV.str (Att.name a7), AV.str (Att.value a7), AV.int IntKind.i64 (Att.pl a7)], AV.agg [AV.str (Att.name b8), AV.str (Att.value b8), AV.int IntKind.i64 (Att.pl b8)]] ∧ ifP (!alike a7 b8) (AV.bool false = v) (gAnd (lowVss 0 eb && true && (lowVss 0 ea && true && true) && true) (ToEnd cfg 31 (bodyOf Try.f31) (RetIs Try.prog Try.f31 v) [Fm.code [0, 1, 0, 1, 1], Fm.block 0, Fm.code [1, 1, 1]] XT.normal [(1, true, AV.sl 3 eb none), (2, true, AV.fn (Fn.func 30) [] []), (15, true, AV.sl 3 ea none), (16, true, AV.int IntKind.i64 i16), (17, true, AV.int IntKind.i64 (IntKind.wrap IntKind.i64 (i17 + 1)))] []))))) (AV.bool true = v)) :
    ToEnd cfg 31 (bodyOf Try.f31) (RetIs Try.prog Try.f31 v) ([.code [0, 1, 0, 1, 1], Fm.block 0, Fm.code [1, 1, 1]]) .normal ([(1, true, AV.sl 3 eb none), (2, true, AV.fn (Fn.func 30) [] []), (15, true, AV.sl 3 ea none), (16, true, AV.int IntKind.i64 i16), (17, true, AV.int IntKind.i64 i17)]) ([]) := by
  have e : unr cfg 31 (bodyOf Try.f31) (ctab [(30, alikeC)]) ⟨[[0, 1, 0, 1, 1]], [([0, 0, 0, 1, 1, 0, 0, 1, 0, 1, 1], 1, [.str, .str, .int .i64]), ([0, 1, 0, 0, 1, 1, 0, 0, 1, 0, 1, 1], 2, [.str, .str, .int .i64])]⟩ (RetIs Try.prog Try.f31 v) 100000 ([.code [0, 0, 1, 0, 1, 1], .loop [0, 1, 0, 1, 1] 0, Fm.block 0, Fm.code [1, 1, 1]]) .normal ([(1, true, AV.sl 3 eb none), (2, true, AV.fn (Fn.func 30) [] []), (15, true, AV.sl 3 ea none), (16, true, AV.int IntKind.i64 i16), (17, true, AV.int IntKind.i64 i17)]) ([]) =
    (ifP (decide (i17 < i16)) (gAnd (inR i17 (List.length ea) && true && true) (∃ (s1 : List UInt8), ∃ (s2 : List UInt8), ∃ (z3 : Int), getE ea i17 = [AV.str s1, AV.str s2, AV.int IntKind.i64 z3] ∧ gAnd (inR i17 (List.length eb) && true && true) (∃ (s4 : List UInt8), ∃ (s5 : List UInt8), ∃ (z6 : Int), getE eb i17 = [AV.str s4, AV.str s5, AV.int IntKind.i64 z6] ∧ ∃ (a7 : Att), ∃ (b8 : Att), [AV.agg [AV.str s1, AV.str s2, AV.int IntKind.i64 z3], AV.agg [AV.str s4, AV.str s5, AV.int IntKind.i64 z6]] = [AV.agg [AV.str (Att.name a7), AV.str (Att.value a7), AV.int IntKind.i64 (Att.pl a7)], AV.agg [AV.str (Att.name b8), AV.str (Att.value b8), AV.int IntKind.i64 (Att.pl b8)]] ∧ ifP (!alike a7 b8) (AV.bool false = v) (gAnd (lowVss 0 eb && true && (lowVss 0 ea && true && true) && true) (ToEnd cfg 31 (bodyOf Try.f31) (RetIs Try.prog Try.f31 v) [Fm.code [0, 1, 0, 1, 1], Fm.block 0, Fm.code [1, 1, 1]] XT.normal [(1, true, AV.sl 3 eb none), (2, true, AV.fn (Fn.func 30) [] []), (15, true, AV.sl 3 ea none), (16, true, AV.int IntKind.i64 i16), (17, true, AV.int IntKind.i64 (IntKind.wrap IntKind.i64 (i17 + 1)))] []))))) (AV.bool true = v)) := by kernel_rfl
  exact ends_round hT 100000 (by kernel_rfl) (e.mpr H)

theorem t32a {N : Nat} {v : AV} {ea eb : List (List AV)} (hT : TabOk cfg (ctab [(21, sameC N)])) (H :
    ifP ((↑(List.length ea) : Int) != (↑(List.length eb) : Int)) (AV.bool false = v) (ToEnd cfg 32 (bodyOf Try.f32) (RetIs Try.prog Try.f32 v) [Fm.code [0, 1, 0, 1, 1], Fm.block 0, Fm.code [1, 1, 1]] XT.normal [(1, true, AV.sl 5 eb none), (2, true, AV.fn (Fn.func 21) [] []), (15, true, AV.sl 5 ea none), (16, true, AV.int IntKind.i64 (↑(List.length ea) : Int)), (17, true, AV.int IntKind.i64 0)] [])) :
    ToEnd cfg 32 (bodyOf Try.f32) (RetIs Try.prog Try.f32 v) ([.code []]) .normal ([(0, true, .sl 5 ea none), (1, true, .sl 5 eb none), (2, true, .fn (.func 21) [] [])]) ([]) := by
  have e : unr cfg 32 (bodyOf Try.f32) (ctab [(21, sameC N)]) ⟨[[0, 1, 0, 1, 1]], [([0, 0, 0, 1, 1, 0, 0, 1, 0, 1, 1], 1, [.int .i64, .int .i64, .str, .sl 3, .sl 5]), ([0, 1, 0, 0, 1, 1, 0, 0, 1, 0, 1, 1], 2, [.int .i64, .int .i64, .str, .sl 3, .sl 5])]⟩ (RetIs Try.prog Try.f32 v) 100000 ([.code []]) .normal ([(0, true, .sl 5 ea none), (1, true, .sl 5 eb none), (2, true, .fn (.func 21) [] [])]) ([]) =
    (ifP ((↑(List.length ea) : Int) != (↑(List.length eb) : Int)) (AV.bool false = v) (ToEnd cfg 32 (bodyOf Try.f32) (RetIs Try.prog Try.f32 v) [Fm.code [0, 1, 0, 1, 1], Fm.block 0, Fm.code [1, 1, 1]] XT.normal [(1, true, AV.sl 5 eb none), (2, true, AV.fn (Fn.func 21) [] []), (15, true, AV.sl 5 ea none), (16, true, AV.int IntKind.i64 (↑(List.length ea) : Int)), (17, true, AV.int IntKind.i64 0)] [])) := by kernel_rfl
  exact unr_ok hT 100000 _ _ _ _ (e.mpr H)

theorem t32b {N : Nat} {v : AV} {ea eb : List (List AV)} {i16 : Int} {i17 : Int} (hT : TabOk cfg (ctab [(21, sameC N)])) (H :
    ifP (decide (i17 < i16)) (gAnd (inR i17 (List.length ea) && true && true) (∃ (z1 : Int), ∃ (z2 : Int), ∃ (s3 : List UInt8), ∃ (es4 : List (List AV)), ∃ (es5 : List (List AV)), getE ea i17 = [AV.int IntKind.i64 z1, AV.int IntKind.i64 z2, AV.str s3, AV.sl 3 es4 none, AV.sl 5 es5 none] ∧ gAnd (inR i17 (List.length eb) && true && true) (∃ (z6 : Int), ∃ (z7 : Int), ∃ (s8 : List UInt8), ∃ (es9 : List (List AV)), ∃ (es10 : List (List AV)), getE eb i17 = [AV.int IntKind.i64 z6, AV.int IntKind.i64 z7, AV.str s8, AV.sl 3 es9 none, AV.sl 5 es10 none] ∧ ∃ (a11 : Nd), ∃ (b12 : Nd), Nd.size a11 < N ∧ Nd.fit a11 ∧ Nd.fit b12 ∧ [AV.agg [AV.int IntKind.i64 z1, AV.int IntKind.i64 z2, AV.str s3, AV.sl 3 (stripss 0 [] es4) none, AV.sl 5 (stripss 0 [] es5) none], AV.agg [AV.int IntKind.i64 z6, AV.int IntKind.i64 z7, AV.str s8, AV.sl 3 (stripss 0 [] es9) none, AV.sl 5 (stripss 0 [] es10) none]] = [AV.agg (encN a11), AV.agg (encN b12)] ∧ ifP (!Nd.same a11 b12) (AV.bool false = v) (gAnd (lowVss 0 eb && true && (lowVss 0 ea && true && true) && true) (ToEnd cfg 32 (bodyOf Try.f32) (RetIs Try.prog Try.f32 v) [Fm.code [0, 1, 0, 1, 1], Fm.block 0, Fm.code [1, 1, 1]] XT.normal [(1, true, AV.sl 5 eb none), (2, true, AV.fn (Fn.func 21) [] []), (15, true, AV.sl 5 ea none), (16, true, AV.int IntKind.i64 i16), (17, true, AV.int IntKind.i64 (IntKind.wrap IntKind.i64 (i17 + 1)))] []))))) (AV.bool true = v)) :
    ToEnd cfg 32 (bodyOf Try.f32) (RetIs Try.prog Try.f32 v) ([.code [0, 1, 0, 1, 1], Fm.block 0, Fm.code [1, 1, 1]]) .normal ([(1, true, AV.sl 5 eb none), (2, true, AV.fn (Fn.func 21) [] []), (15, true, AV.sl 5 ea none), (16, true, AV.int IntKind.i64 i16), (17, true, AV.int IntKind.i64 i17)]) ([]) := by
  have e : unr cfg 32 (bodyOf Try.f32) (ctab [(21, sameC N)]) ⟨[[0, 1, 0, 1, 1]], [([0, 0, 0, 1, 1, 0, 0, 1, 0, 1, 1], 1, [.int .i64, .int .i64, .str, .sl 3, .sl 5]), ([0, 1, 0, 0, 1, 1, 0, 0, 1, 0, 1, 1], 2, [.int .i64, .int .i64, .str, .sl 3, .sl 5])]⟩ (RetIs Try.prog Try.f32 v) 100000 ([.code [0, 0, 1, 0, 1, 1], .loop [0, 1, 0, 1, 1] 0, Fm.block 0, Fm.code [1, 1, 1]]) .normal ([(1, true, AV.sl 5 eb none), (2, true, AV.fn (Fn.func 21) [] []), (15, true, AV.sl 5 ea none), (16, true, AV.int IntKind.i64 i16), (17, true, AV.int IntKind.i64 i17)]) ([]) =
    (ifP (decide (i17 < i16)) (gAnd (inR i17 (List.length ea) && true && true) (∃ (z1 : Int), ∃ (z2 : Int), ∃ (s3 : List UInt8), ∃ (es4 : List (List AV)), ∃ (es5 : List (List AV)), getE ea i17 = [AV.int IntKind.i64 z1, AV.int IntKind.i64 z2, AV.str s3, AV.sl 3 es4 none, AV.sl 5 es5 none] ∧ gAnd (inR i17 (List.length eb) && true && true) (∃ (z6 : Int), ∃ (z7 : Int), ∃ (s8 : List UInt8), ∃ (es9 : List (List AV)), ∃ (es10 : List (List AV)), getE eb i17 = [AV.int IntKind.i64 z6, AV.int IntKind.i64 z7, AV.str s8, AV.sl 3 es9 none, AV.sl 5 es10 none] ∧ ∃ (a11 : Nd), ∃ (b12 : Nd), Nd.size a11 < N ∧ Nd.fit a11 ∧ Nd.fit b12 ∧ [AV.agg [AV.int IntKind.i64 z1, AV.int IntKind.i64 z2, AV.str s3, AV.sl 3 (stripss 0 [] es4) none, AV.sl 5 (stripss 0 [] es5) none], AV.agg [AV.int IntKind.i64 z6, AV.int IntKind.i64 z7, AV.str s8, AV.sl 3 (stripss 0 [] es9) none, AV.sl 5 (stripss 0 [] es10) none]] = [AV.agg (encN a11), AV.agg (encN b12)] ∧ ifP (!Nd.same a11 b12) (AV.bool false = v) (gAnd (lowVss 0 eb && true && (lowVss 0 ea && true && true) && true) (ToEnd cfg 32 (bodyOf Try.f32) (RetIs Try.prog Try.f32 v) [Fm.code [0, 1, 0, 1, 1], Fm.block 0, Fm.code [1, 1, 1]] XT.normal [(1, true, AV.sl 5 eb none), (2, true, AV.fn (Fn.func 21) [] []), (15, true, AV.sl 5 ea none), (16, true, AV.int IntKind.i64 i16), (17, true, AV.int IntKind.i64 (IntKind.wrap IntKind.i64 (i17 + 1)))] []))))) (AV.bool true = v)) := by kernel_rfl
  exact ends_round hT 100000 (by kernel_rfl) (e.mpr H)

theorem t21a {N : Nat} {v : AV} {xk xp : Int} {xt : List UInt8} {xa xs : List (List AV)} {yk yp : Int} {yt : List UInt8} {ya ys : List (List AV)} (hT : TabOk cfg (ctab [(31, alikesC 30), (32, samesC 21 N)])) (H :
    ifP (xk == yk) (ifP (xt == yt) (∃ (al1 : List Att), ∃ (bl2 : List Att), List.length al1 ≤ 9223372036854775807 ∧ List.length bl2 ≤ 9223372036854775807 ∧ [AV.sl 3 (stripss 0 [] xa) none, AV.sl 3 (stripss 0 [] ya) none, AV.fn (Fn.func 30) [] []] = [AV.sl 3 (List.map encA al1) none, AV.sl 3 (List.map encA bl2) none, AV.fn (Fn.func 30) [] []] ∧ ifP (alikes al1 bl2) (∃ (al3 : List Nd), ∃ (bl4 : List Nd), sizes al3 < N ∧ fits al3 ∧ fits bl4 ∧ List.length al3 ≤ 9223372036854775807 ∧ List.length bl4 ≤ 9223372036854775807 ∧ [AV.sl 5 (stripss 0 [] xs) none, AV.sl 5 (stripss 0 [] ys) none, AV.fn (Fn.func 21) [] []] = [AV.sl 5 (encNs al3) none, AV.sl 5 (encNs bl4) none, AV.fn (Fn.func 21) [] []] ∧ AV.bool (sames al3 bl4) = v) (AV.bool false = v)) (AV.bool false = v)) (AV.bool false = v)) :
    ToEnd cfg 21 (bodyOf Try.f21) (RetIs Try.prog Try.f21 v) ([.code []]) .normal ([(0, true, .agg [.int .i64 xk, .int .i64 xp, .str xt, .sl 3 xa none, .sl 5 xs none]), (1, true, .agg [.int .i64 yk, .int .i64 yp, .str yt, .sl 3 ya none, .sl 5 ys none])]) ([]) := by
  have e : unr cfg 21 (bodyOf Try.f21) (ctab [(31, alikesC 30), (32, samesC 21 N)]) ⟨[], []⟩ (RetIs Try.prog Try.f21 v) 100000 ([.code []]) .normal ([(0, true, .agg [.int .i64 xk, .int .i64 xp, .str xt, .sl 3 xa none, .sl 5 xs none]), (1, true, .agg [.int .i64 yk, .int .i64 yp, .str yt, .sl 3 ya none, .sl 5 ys none])]) ([]) =
    (ifP (xk == yk) (ifP (xt == yt) (∃ (al1 : List Att), ∃ (bl2 : List Att), List.length al1 ≤ 9223372036854775807 ∧ List.length bl2 ≤ 9223372036854775807 ∧ [AV.sl 3 (stripss 0 [] xa) none, AV.sl 3 (stripss 0 [] ya) none, AV.fn (Fn.func 30) [] []] = [AV.sl 3 (List.map encA al1) none, AV.sl 3 (List.map encA bl2) none, AV.fn (Fn.func 30) [] []] ∧ ifP (alikes al1 bl2) (∃ (al3 : List Nd), ∃ (bl4 : List Nd), sizes al3 < N ∧ fits al3 ∧ fits bl4 ∧ List.length al3 ≤ 9223372036854775807 ∧ List.length bl4 ≤ 9223372036854775807 ∧ [AV.sl 5 (stripss 0 [] xs) none, AV.sl 5 (stripss 0 [] ys) none, AV.fn (Fn.func 21) [] []] = [AV.sl 5 (encNs al3) none, AV.sl 5 (encNs bl4) none, AV.fn (Fn.func 21) [] []] ∧ AV.bool (sames al3 bl4) = v) (AV.bool false = v)) (AV.bool false = v)) (AV.bool false = v)) := by kernel_rfl
  exact unr_ok hT 100000 _ _ _ _ (e.mpr H)

theorem t24a {N : Nat} {v : AV} {xk xp : Int} {xt : List UInt8} {xa xs : List (List AV)} {yk yp : Int} {yt : List UInt8} {ya ys : List (List AV)} (hT : TabOk cfg (ctab [(24, sameC N)])) (H :
    ifP (xk != yk) (AV.bool false = v) (ifP (!xt == yt) (AV.bool false = v) (ifP ((↑(List.length xa) : Int) != (↑(List.length ya) : Int)) (AV.bool false = v) (ifP ((↑(List.length xs) : Int) != (↑(List.length ys) : Int)) (AV.bool false = v) (ToEnd cfg 24 (bodyOf Try.f24) (RetIs Try.prog Try.f24 v) [Fm.code [0, 1, 0, 1, 1], Fm.block 0, Fm.code [1, 1, 1]] XT.normal [(2, true, AV.ptr 0 0), (3, true, AV.ptr 1 0), (5, true, AV.int IntKind.i64 0)] [Blk.mem 25 [AV.int IntKind.i64 xk, AV.int IntKind.i64 xp, AV.str xt, AV.sl 3 xa none, AV.sl 5 xs none], Blk.mem 25 [AV.int IntKind.i64 yk, AV.int IntKind.i64 yp, AV.str yt, AV.sl 3 ya none, AV.sl 5 ys none]]))))) :
    ToEnd cfg 24 (bodyOf Try.f24) (RetIs Try.prog Try.f24 v) ([.code []]) .normal ([(0, true, .agg [.int .i64 xk, .int .i64 xp, .str xt, .sl 3 xa none, .sl 5 xs none]), (1, true, .agg [.int .i64 yk, .int .i64 yp, .str yt, .sl 3 ya none, .sl 5 ys none])]) ([]) := by
  have e : unr cfg 24 (bodyOf Try.f24) (ctab [(24, sameC N)]) ⟨[[0, 1, 0, 1, 1], [0, 1, 0, 1, 1, 1]], [([0, 0, 0, 1, 0, 0, 1, 0, 1, 1], 3, [.str, .str, .int .i64]), ([0, 0, 0, 1, 0, 0, 1, 0, 1, 1], 9, [.str, .str, .int .i64]), ([0, 0, 0, 1, 0, 0, 1, 0, 1, 1], 17, [.str, .str, .int .i64]), ([0, 0, 0, 1, 0, 0, 1, 0, 1, 1], 23, [.str, .str, .int .i64]), ([0, 0, 0, 1, 0, 0, 1, 0, 1, 1, 1], 3, [.int .i64, .int .i64, .str, .sl 3, .sl 5]), ([0, 0, 0, 1, 0, 0, 1, 0, 1, 1, 1], 8, [.int .i64, .int .i64, .str, .sl 3, .sl 5])]⟩ (RetIs Try.prog Try.f24 v) 100000 ([.code []]) .normal ([(0, true, .agg [.int .i64 xk, .int .i64 xp, .str xt, .sl 3 xa none, .sl 5 xs none]), (1, true, .agg [.int .i64 yk, .int .i64 yp, .str yt, .sl 3 ya none, .sl 5 ys none])]) ([]) =
    (ifP (xk != yk) (AV.bool false = v) (ifP (!xt == yt) (AV.bool false = v) (ifP ((↑(List.length xa) : Int) != (↑(List.length ya) : Int)) (AV.bool false = v) (ifP ((↑(List.length xs) : Int) != (↑(List.length ys) : Int)) (AV.bool false = v) (ToEnd cfg 24 (bodyOf Try.f24) (RetIs Try.prog Try.f24 v) [Fm.code [0, 1, 0, 1, 1], Fm.block 0, Fm.code [1, 1, 1]] XT.normal [(2, true, AV.ptr 0 0), (3, true, AV.ptr 1 0), (5, true, AV.int IntKind.i64 0)] [Blk.mem 25 [AV.int IntKind.i64 xk, AV.int IntKind.i64 xp, AV.str xt, AV.sl 3 xa none, AV.sl 5 xs none], Blk.mem 25 [AV.int IntKind.i64 yk, AV.int IntKind.i64 yp, AV.str yt, AV.sl 3 ya none, AV.sl 5 ys none]]))))) := by kernel_rfl
  exact unr_ok hT 100000 _ _ _ _ (e.mpr H)

theorem t24b {N : Nat} {v : AV} {xk xp : Int} {xt : List UInt8} {xa xs : List (List AV)} {yk yp : Int} {yt : List UInt8} {ya ys : List (List AV)} {i5 : Int} (hT : TabOk cfg (ctab [(24, sameC N)])) (H :
    ifP (decide (i5 < (↑(List.length xa) : Int))) (gAnd (inR i5 (List.length xa) && true && true) (∃ (s1 : List UInt8), ∃ (s2 : List UInt8), ∃ (z3 : Int), getE xa i5 = [AV.str s1, AV.str s2, AV.int IntKind.i64 z3] ∧ gAnd (inR i5 (List.length ya) && true && true) (∃ (s4 : List UInt8), ∃ (s5 : List UInt8), ∃ (z6 : Int), getE ya i5 = [AV.str s4, AV.str s5, AV.int IntKind.i64 z6] ∧ ifP (!s1 == s4) (AV.bool false = v) (gAnd (inR i5 (List.length xa) && true && true) (∃ (s7 : List UInt8), ∃ (s8 : List UInt8), ∃ (z9 : Int), getE xa i5 = [AV.str s7, AV.str s8, AV.int IntKind.i64 z9] ∧ gAnd (inR i5 (List.length ya) && true && true) (∃ (s10 : List UInt8), ∃ (s11 : List UInt8), ∃ (z12 : Int), getE ya i5 = [AV.str s10, AV.str s11, AV.int IntKind.i64 z12] ∧ ifP (!s8 == s11) (AV.bool false = v) (gAnd (lowVss 2 xa && true && (lowVss 2 xs && true && true) && (lowVss 2 ya && true && (lowVss 2 ys && true && true) && true)) (ToEnd cfg 24 (bodyOf Try.f24) (RetIs Try.prog Try.f24 v) [Fm.code [0, 1, 0, 1, 1], Fm.block 0, Fm.code [1, 1, 1]] XT.normal [(2, true, AV.ptr 0 0), (3, true, AV.ptr 1 0), (5, true, AV.int IntKind.i64 (IntKind.wrap IntKind.i64 (i5 + 1)))] [Blk.mem 25 [AV.int IntKind.i64 xk, AV.int IntKind.i64 xp, AV.str xt, AV.sl 3 xa none, AV.sl 5 xs none], Blk.mem 25 [AV.int IntKind.i64 yk, AV.int IntKind.i64 yp, AV.str yt, AV.sl 3 ya none, AV.sl 5 ys none]])))))))) (ToEnd cfg 24 (bodyOf Try.f24) (RetIs Try.prog Try.f24 v) [Fm.code [0, 1, 0, 1, 1, 1], Fm.block 2, Fm.code [1, 1, 1, 1]] XT.normal [(2, true, AV.ptr 0 0), (3, true, AV.ptr 1 0), (6, true, AV.int IntKind.i64 0)] [Blk.mem 25 [AV.int IntKind.i64 xk, AV.int IntKind.i64 xp, AV.str xt, AV.sl 3 xa none, AV.sl 5 xs none], Blk.mem 25 [AV.int IntKind.i64 yk, AV.int IntKind.i64 yp, AV.str yt, AV.sl 3 ya none, AV.sl 5 ys none]])) :
    ToEnd cfg 24 (bodyOf Try.f24) (RetIs Try.prog Try.f24 v) ([.code [0, 1, 0, 1, 1], Fm.block 0, Fm.code [1, 1, 1]]) .normal ([(2, true, AV.ptr 0 0), (3, true, AV.ptr 1 0), (5, true, AV.int IntKind.i64 i5)]) ([Blk.mem 25 [AV.int IntKind.i64 xk, AV.int IntKind.i64 xp, AV.str xt, AV.sl 3 xa none, AV.sl 5 xs none], Blk.mem 25 [AV.int IntKind.i64 yk, AV.int IntKind.i64 yp, AV.str yt, AV.sl 3 ya none, AV.sl 5 ys none]]) := by
  have e : unr cfg 24 (bodyOf Try.f24) (ctab [(24, sameC N)]) ⟨[[0, 1, 0, 1, 1], [0, 1, 0, 1, 1, 1]], [([0, 0, 0, 1, 0, 0, 1, 0, 1, 1], 3, [.str, .str, .int .i64]), ([0, 0, 0, 1, 0, 0, 1, 0, 1, 1], 9, [.str, .str, .int .i64]), ([0, 0, 0, 1, 0, 0, 1, 0, 1, 1], 17, [.str, .str, .int .i64]), ([0, 0, 0, 1, 0, 0, 1, 0, 1, 1], 23, [.str, .str, .int .i64]), ([0, 0, 0, 1, 0, 0, 1, 0, 1, 1, 1], 3, [.int .i64, .int .i64, .str, .sl 3, .sl 5]), ([0, 0, 0, 1, 0, 0, 1, 0, 1, 1, 1], 8, [.int .i64, .int .i64, .str, .sl 3, .sl 5])]⟩ (RetIs Try.prog Try.f24 v) 100000 ([.code [0, 0, 1, 0, 1, 1], .loop [0, 1, 0, 1, 1] 2, Fm.block 0, Fm.code [1, 1, 1]]) .normal ([(2, true, AV.ptr 0 0), (3, true, AV.ptr 1 0), (5, true, AV.int IntKind.i64 i5)]) ([Blk.mem 25 [AV.int IntKind.i64 xk, AV.int IntKind.i64 xp, AV.str xt, AV.sl 3 xa none, AV.sl 5 xs none], Blk.mem 25 [AV.int IntKind.i64 yk, AV.int IntKind.i64 yp, AV.str yt, AV.sl 3 ya none, AV.sl 5 ys none]]) =
    (ifP (decide (i5 < (↑(List.length xa) : Int))) (gAnd (inR i5 (List.length xa) && true && true) (∃ (s1 : List UInt8), ∃ (s2 : List UInt8), ∃ (z3 : Int), getE xa i5 = [AV.str s1, AV.str s2, AV.int IntKind.i64 z3] ∧ gAnd (inR i5 (List.length ya) && true && true) (∃ (s4 : List UInt8), ∃ (s5 : List UInt8), ∃ (z6 : Int), getE ya i5 = [AV.str s4, AV.str s5, AV.int IntKind.i64 z6] ∧ ifP (!s1 == s4) (AV.bool false = v) (gAnd (inR i5 (List.length xa) && true && true) (∃ (s7 : List UInt8), ∃ (s8 : List UInt8), ∃ (z9 : Int), getE xa i5 = [AV.str s7, AV.str s8, AV.int IntKind.i64 z9] ∧ gAnd (inR i5 (List.length ya) && true && true) (∃ (s10 : List UInt8), ∃ (s11 : List UInt8), ∃ (z12 : Int), getE ya i5 = [AV.str s10, AV.str s11, AV.int IntKind.i64 z12] ∧ ifP (!s8 == s11) (AV.bool false = v) (gAnd (lowVss 2 xa && true && (lowVss 2 xs && true && true) && (lowVss 2 ya && true && (lowVss 2 ys && true && true) && true)) (ToEnd cfg 24 (bodyOf Try.f24) (RetIs Try.prog Try.f24 v) [Fm.code [0, 1, 0, 1, 1], Fm.block 0, Fm.code [1, 1, 1]] XT.normal [(2, true, AV.ptr 0 0), (3, true, AV.ptr 1 0), (5, true, AV.int IntKind.i64 (IntKind.wrap IntKind.i64 (i5 + 1)))] [Blk.mem 25 [AV.int IntKind.i64 xk, AV.int IntKind.i64 xp, AV.str xt, AV.sl 3 xa none, AV.sl 5 xs none], Blk.mem 25 [AV.int IntKind.i64 yk, AV.int IntKind.i64 yp, AV.str yt, AV.sl 3 ya none, AV.sl 5 ys none]])))))))) (ToEnd cfg 24 (bodyOf Try.f24) (RetIs Try.prog Try.f24 v) [Fm.code [0, 1, 0, 1, 1, 1], Fm.block 2, Fm.code [1, 1, 1, 1]] XT.normal [(2, true, AV.ptr 0 0), (3, true, AV.ptr 1 0), (6, true, AV.int IntKind.i64 0)] [Blk.mem 25 [AV.int IntKind.i64 xk, AV.int IntKind.i64 xp, AV.str xt, AV.sl 3 xa none, AV.sl 5 xs none], Blk.mem 25 [AV.int IntKind.i64 yk, AV.int IntKind.i64 yp, AV.str yt, AV.sl 3 ya none, AV.sl 5 ys none]])) := by kernel_rfl
  exact ends_round hT 100000 (by kernel_rfl) (e.mpr H)

theorem t24c {N : Nat} {v : AV} {xk xp : Int} {xt : List UInt8} {xa xs : List (List AV)} {yk yp : Int} {yt : List UInt8} {ya ys : List (List AV)}  {i6 : Int} (hT : TabOk cfg (ctab [(24, sameC N)])) (H :
    ifP (decide (i6 < (↑(List.length xs) : Int))) (gAnd (inR i6 (List.length xs) && true && true) (∃ (z1 : Int), ∃ (z2 : Int), ∃ (s3 : List UInt8), ∃ (es4 : List (List AV)), ∃ (es5 : List (List AV)), getE xs i6 = [AV.int IntKind.i64 z1, AV.int IntKind.i64 z2, AV.str s3, AV.sl 3 es4 none, AV.sl 5 es5 none] ∧ gAnd (inR i6 (List.length ys) && true && true) (∃ (z6 : Int), ∃ (z7 : Int), ∃ (s8 : List UInt8), ∃ (es9 : List (List AV)), ∃ (es10 : List (List AV)), getE ys i6 = [AV.int IntKind.i64 z6, AV.int IntKind.i64 z7, AV.str s8, AV.sl 3 es9 none, AV.sl 5 es10 none] ∧ ∃ (a11 : Nd), ∃ (b12 : Nd), Nd.size a11 < N ∧ Nd.fit a11 ∧ Nd.fit b12 ∧ [AV.agg [AV.int IntKind.i64 z1, AV.int IntKind.i64 z2, AV.str s3, AV.sl 3 (stripss 0 [] es4) none, AV.sl 5 (stripss 0 [] es5) none], AV.agg [AV.int IntKind.i64 z6, AV.int IntKind.i64 z7, AV.str s8, AV.sl 3 (stripss 0 [] es9) none, AV.sl 5 (stripss 0 [] es10) none]] = [AV.agg (encN a11), AV.agg (encN b12)] ∧ ifP (!Nd.same a11 b12) (AV.bool false = v) (gAnd (lowVss 2 xa && true && (lowVss 2 xs && true && true) && (lowVss 2 ya && true && (lowVss 2 ys && true && true) && true)) (ToEnd cfg 24 (bodyOf Try.f24) (RetIs Try.prog Try.f24 v) [Fm.code [0, 1, 0, 1, 1, 1], Fm.block 2, Fm.code [1, 1, 1, 1]] XT.normal [(2, true, AV.ptr 0 0), (3, true, AV.ptr 1 0), (6, true, AV.int IntKind.i64 (IntKind.wrap IntKind.i64 (i6 + 1)))] [Blk.mem 25 [AV.int IntKind.i64 xk, AV.int IntKind.i64 xp, AV.str xt, AV.sl 3 xa none, AV.sl 5 xs none], Blk.mem 25 [AV.int IntKind.i64 yk, AV.int IntKind.i64 yp, AV.str yt, AV.sl 3 ya none, AV.sl 5 ys none]]))))) (AV.bool true = v)) :
    ToEnd cfg 24 (bodyOf Try.f24) (RetIs Try.prog Try.f24 v) ([.code [0, 1, 0, 1, 1, 1], Fm.block 2, Fm.code [1, 1, 1, 1]]) .normal ([(2, true, AV.ptr 0 0), (3, true, AV.ptr 1 0), (6, true, AV.int IntKind.i64 i6)]) ([Blk.mem 25 [AV.int IntKind.i64 xk, AV.int IntKind.i64 xp, AV.str xt, AV.sl 3 xa none, AV.sl 5 xs none], Blk.mem 25 [AV.int IntKind.i64 yk, AV.int IntKind.i64 yp, AV.str yt, AV.sl 3 ya none, AV.sl 5 ys none]]) := by
  have e : unr cfg 24 (bodyOf Try.f24) (ctab [(24, sameC N)]) ⟨[[0, 1, 0, 1, 1], [0, 1, 0, 1, 1, 1]], [([0, 0, 0, 1, 0, 0, 1, 0, 1, 1], 3, [.str, .str, .int .i64]), ([0, 0, 0, 1, 0, 0, 1, 0, 1, 1], 9, [.str, .str, .int .i64]), ([0, 0, 0, 1, 0, 0, 1, 0, 1, 1], 17, [.str, .str, .int .i64]), ([0, 0, 0, 1, 0, 0, 1, 0, 1, 1], 23, [.str, .str, .int .i64]), ([0, 0, 0, 1, 0, 0, 1, 0, 1, 1, 1], 3, [.int .i64, .int .i64, .str, .sl 3, .sl 5]), ([0, 0, 0, 1, 0, 0, 1, 0, 1, 1, 1], 8, [.int .i64, .int .i64, .str, .sl 3, .sl 5])]⟩ (RetIs Try.prog Try.f24 v) 100000 ([.code [0, 0, 1, 0, 1, 1, 1], .loop [0, 1, 0, 1, 1, 1] 2, Fm.block 2, Fm.code [1, 1, 1, 1]]) .normal ([(2, true, AV.ptr 0 0), (3, true, AV.ptr 1 0), (6, true, AV.int IntKind.i64 i6)]) ([Blk.mem 25 [AV.int IntKind.i64 xk, AV.int IntKind.i64 xp, AV.str xt, AV.sl 3 xa none, AV.sl 5 xs none], Blk.mem 25 [AV.int IntKind.i64 yk, AV.int IntKind.i64 yp, AV.str yt, AV.sl 3 ya none, AV.sl 5 ys none]]) =
    (ifP (decide (i6 < (↑(List.length xs) : Int))) (gAnd (inR i6 (List.length xs) && true && true) (∃ (z1 : Int), ∃ (z2 : Int), ∃ (s3 : List UInt8), ∃ (es4 : List (List AV)), ∃ (es5 : List (List AV)), getE xs i6 = [AV.int IntKind.i64 z1, AV.int IntKind.i64 z2, AV.str s3, AV.sl 3 es4 none, AV.sl 5 es5 none] ∧ gAnd (inR i6 (List.length ys) && true && true) (∃ (z6 : Int), ∃ (z7 : Int), ∃ (s8 : List UInt8), ∃ (es9 : List (List AV)), ∃ (es10 : List (List AV)), getE ys i6 = [AV.int IntKind.i64 z6, AV.int IntKind.i64 z7, AV.str s8, AV.sl 3 es9 none, AV.sl 5 es10 none] ∧ ∃ (a11 : Nd), ∃ (b12 : Nd), Nd.size a11 < N ∧ Nd.fit a11 ∧ Nd.fit b12 ∧ [AV.agg [AV.int IntKind.i64 z1, AV.int IntKind.i64 z2, AV.str s3, AV.sl 3 (stripss 0 [] es4) none, AV.sl 5 (stripss 0 [] es5) none], AV.agg [AV.int IntKind.i64 z6, AV.int IntKind.i64 z7, AV.str s8, AV.sl 3 (stripss 0 [] es9) none, AV.sl 5 (stripss 0 [] es10) none]] = [AV.agg (encN a11), AV.agg (encN b12)] ∧ ifP (!Nd.same a11 b12) (AV.bool false = v) (gAnd (lowVss 2 xa && true && (lowVss 2 xs && true && true) && (lowVss 2 ya && true && (lowVss 2 ys && true && true) && true)) (ToEnd cfg 24 (bodyOf Try.f24) (RetIs Try.prog Try.f24 v) [Fm.code [0, 1, 0, 1, 1, 1], Fm.block 2, Fm.code [1, 1, 1, 1]] XT.normal [(2, true, AV.ptr 0 0), (3, true, AV.ptr 1 0), (6, true, AV.int IntKind.i64 (IntKind.wrap IntKind.i64 (i6 + 1)))] [Blk.mem 25 [AV.int IntKind.i64 xk, AV.int IntKind.i64 xp, AV.str xt, AV.sl 3 xa none, AV.sl 5 xs none], Blk.mem 25 [AV.int IntKind.i64 yk, AV.int IntKind.i64 yp, AV.str yt, AV.sl 3 ya none, AV.sl 5 ys none]]))))) (AV.bool true = v)) := by kernel_rfl
  exact ends_round hT 100000 (by kernel_rfl) (e.mpr H)

end Go.Proofs.Ytpfbpidlglelgaa
end

section
namespace Go.Proofs.Ytpfbpidlglelgaa
open Go.Ai Go
set_option linter.unusedSimpArgs false
set_option linter.unusedVariables false

theorem pf7 : pureFn cfg 7 Try.f7 := ⟨by kernel_rfl, by kernel_rfl, by kernel_rfl, by kernel_rfl, by kernel_rfl, by kernel_rfl⟩
theorem pf22 : pureFn cfg 22 Try.f22 := ⟨by kernel_rfl, by kernel_rfl, by kernel_rfl, by kernel_rfl, by kernel_rfl, by kernel_rfl⟩
theorem pf25 : pureFn cfg 25 Try.f25 := ⟨by kernel_rfl, by kernel_rfl, by kernel_rfl, by kernel_rfl, by kernel_rfl, by kernel_rfl⟩
theorem pf21 : pureFn cfg 21 Try.f21 := ⟨by kernel_rfl, by kernel_rfl, by kernel_rfl, by kernel_rfl, by kernel_rfl, by kernel_rfl⟩
theorem pf24 : pureFn cfg 24 Try.f24 := ⟨by kernel_rfl, by kernel_rfl, by kernel_rfl, by kernel_rfl, by kernel_rfl, by kernel_rfl⟩
theorem pf30 : pureFn cfg 30 Try.f30 := ⟨by kernel_rfl, by kernel_rfl, by kernel_rfl, by kernel_rfl, by kernel_rfl, by kernel_rfl⟩
theorem pf31 : pureFn cfg 31 Try.f31 := ⟨by kernel_rfl, by kernel_rfl, by kernel_rfl, by kernel_rfl, by kernel_rfl, by kernel_rfl⟩
theorem pf32 : pureFn cfg 32 Try.f32 := ⟨by kernel_rfl, by kernel_rfl, by kernel_rfl, by kernel_rfl, by kernel_rfl, by kernel_rfl⟩

theorem wrap_succ {n : Nat} (h : n < lim) : IntKind.wrap .i64 ((n : Int) + 1) = ((n + 1 : Nat) : Int) := by
  unfold lim at h; rw [wrap_in] <;> omega
theorem tdiv20 (n : Nat) (h : n ≤ lim) : IntKind.wrap .i64 (Int.tdiv (n : Int) 20) = ((n / 20 : Nat) : Int) := by
  unfold lim at h
  rw [Int.tdiv_eq_ediv_of_nonneg (by omega), wrap_in] <;> omega
theorem wrap_sub {a b : Int} (h1 : -9223372036854775808 ≤ a - b) (h2 : a - b ≤ 9223372036854775807) : IntKind.wrap .i64 (a - b) = a - b := wrap_in h1 h2

/-! Size -/
theorem loop25c {N : Nat} (hT : TabOk cfg (ctab [(25, leftC N)])) (k p : Int) (t : List UInt8) (al : List Att) : ∀ (r pre : List Nd) (l : Int), low0 ≤ l → l ≤ 600 → sizes (pre ++ r) < N → fits (pre ++ r) → (pre ++ r).length ≤ lim →
    ToEnd cfg 25 (bodyOf Try.f25) (RetIs Try.prog Try.f25 (.int .i64 (lefts r l))) [.code [0, 1, 0, 1, 1, 1], .block 2, .code [1, 1, 1, 1]] .normal
      [(1, true, .int .i64 l), (2, true, .ptr 0 0), (6, true, .int .i64 pre.length)] [.mem 25 [.int .i64 k, .int .i64 p, .str t, .sl 3 (al.map encA) none, .sl 5 (encNs (pre ++ r)) none]] := by
  intro r
  induction r with
  | nil =>
    intro pre l h1 h2 hs hf hl
    refine t25c hT (ifP_intro (fun hc => ?_) fun _ => rfl)
    simp [encNs_length] at hc
  | cons x r ih =>
    intro pre l h1 h2 hs hf hl
    have hx := (fits_append.1 hf).2.1
    have hsz := sizes_mem (l := pre ++ x :: r) (n := x) (by simp)
    have hlen : pre.length < lim := by simp at hl; omega
    refine t25c hT (ifP_intro (fun _ => ifP_intro (fun hg => ?_) fun hg => ?_) fun hc => ?_)
    · simp only [gt_iff_lt, decide_eq_true_eq] at hg
      refine gAnd_intro (by rw [encNs_length, inR_of (by omega) (by simp; omega)]; rfl) ⟨x.kind, x.pl, x.text, x.attrs.map encA, encNs x.kids, by rw [getE_encNs, encN_eq], x, l, by omega, hx, hg, h2, by rw [stripss_encAs, stripss_encNs, encN_eq], ?_⟩
      refine gAnd_intro (by simp only [low_encAs, low_encNs, Bool.and_true]) ?_
      rw [wrap_succ hlen]
      have := ih (pre ++ [x]) (x.left l) (x.left_low hx hg) (by have := (x.left_size (l := l)).2; omega) (by simpa using hs) (by simpa using hf) (by simpa using hl)
      simpa [lefts, hg] using this
    · simp only [gt_iff_lt, decide_eq_false_iff_not] at hg
      rw [lefts, if_neg hg]
    · simp [encNs_length] at hc; omega

theorem loop25b {N : Nat} (hT : TabOk cfg (ctab [(25, leftC N)])) (k p : Int) (t : List UInt8) (ks : List Nd) (hN : sizes ks < N) (hf : fits ks) (hk : ks.length ≤ lim) : ∀ (r pre : List Att) (l : Int), low0 ≤ l → l ≤ 600 → (∀ a ∈ r, a.fit) → (pre ++ r).length ≤ lim →
    ToEnd cfg 25 (bodyOf Try.f25) (RetIs Try.prog Try.f25 (.int .i64 (lefts ks (attsG r l)))) [.code [0, 1, 0, 1, 1], .block 0, .code [1, 1, 1]] .normal
      [(1, true, .int .i64 l), (2, true, .ptr 0 0), (5, true, .int .i64 pre.length)] [.mem 25 [.int .i64 k, .int .i64 p, .str t, .sl 3 ((pre ++ r).map encA) none, .sl 5 (encNs ks) none]] := by
  intro r
  induction r with
  | nil =>
    intro pre l h1 h2 _ hl
    refine t25b hT (ifP_intro (fun hc => ?_) fun _ => ?_)
    · simp at hc
    · exact loop25c hT k p t _ ks [] l h1 h2 hN hf hk
  | cons x r ih =>
    intro pre l h1 h2 ha hl
    have hlen : pre.length < lim := by simp at hl; omega
    have hx := ha x (by simp)
    refine t25b hT (ifP_intro (fun _ => ifP_intro (fun hg => ?_) fun hg => ?_) fun hc => ?_)
    · simp only [gt_iff_lt, decide_eq_true_eq] at hg
      have hin : inR (pre.length : Int) ((pre ++ x :: r).map encA).length = true := inR_of (by omega) (by simp; omega)
      refine gAnd_intro (by rw [hin]; rfl) ⟨x.name, x.value, x.pl, getE_pre _ _ _ _, gAnd_intro (by rw [hin]; rfl) ⟨x.name, x.value, x.pl, getE_pre _ _ _ _, gAnd_intro (by simp only [low_encAs, low_encNs, Bool.and_true]) ?_⟩⟩
      rw [wrap_succ hlen, tdiv20 _ hx.1, tdiv20 _ hx.2]
      have e : IntKind.wrap .i64 (IntKind.wrap .i64 (IntKind.wrap .i64 (l - 1) - (x.name.length / 20 : Nat)) - (x.value.length / 20 : Nat)) = attG x l := by
        obtain ⟨q1, q2⟩ := hx
        unfold lim at q1 q2
        unfold low0 at h1
        rw [wrap_in (n := l - 1) (by omega) (by omega), wrap_sub (a := l - 1) (by omega) (by omega), wrap_sub (by omega) (by omega)]
        rfl
      rw [e]
      have := ih (pre ++ [x]) (attG x l) (attG_low hx hg) (by have := attG_le (a := x) (l := l); omega) (fun a h => ha a (by simp [h])) (by simpa using hl)
      simpa [attsG, hg] using this
    · simp only [gt_iff_lt, decide_eq_false_iff_not] at hg
      rw [attsG, if_neg hg]
      exact loop25c hT k p t _ ks [] l h1 h2 hN hf hk
    · simp at hc; omega

theorem c25 : ∀ N, COk cfg 25 (leftC N)
  | 0 => fun l h K ht => by obtain ⟨nd, l, h, _⟩ := ht; omega
  | N + 1 => by
    have hT := ctab_ok (ctab_cons (c25 N) ctab_nil)
    refine cok_pure pf25 fun vs h K ht => ?_
    obtain ⟨nd, l, hs, hf, h0, h6, rfl, hk⟩ := ht
    refine ⟨_, hk, ?_⟩
    rw [encN_eq]
    refine t25a hT ?_
    rw [Nd.fit_eq] at hf
    obtain ⟨q1, q2, q3, q4, q5⟩ := hf
    rw [Nd.size_eq] at hs
    rw [Nd.left_eq, tdiv20 _ q1]
    have e : IntKind.wrap .i64 (IntKind.wrap .i64 (l - 1) - (nd.text.length / 20 : Nat)) = l - 1 - (nd.text.length / 20 : Nat) := by
      unfold lim at q1
      rw [wrap_in (n := l - 1) (by omega) (by omega), wrap_sub (by omega) (by omega)]
    rw [e]
    exact loop25b hT _ _ _ nd.kids (by omega) q5 q4 nd.attrs [] _ (by unfold lim at q1; unfold low0; omega) (by omega) q3 q2

theorem c7 : COk cfg 7 fewC := by
  refine cok_pure pf7 fun vs h K ht => ?_
  obtain ⟨nd, hf, rfl, hk⟩ := ht
  refine ⟨_, hk, ?_⟩
  have hT := ctab_ok (ctab_cons (c25 (nd.size + 1)) ctab_nil)
  rw [encN_eq]
  exact t7a hT ⟨nd, 600, by omega, hf, by omega, by omega, by rw [stripss_encAs, stripss_encNs, encN_eq], rfl⟩

/-! Attr, the document's -/
theorem loop22 (hT : TabOk cfg (ctab [])) (k p : Int) (t nm : List UInt8) (ks : List Nd) : ∀ (r pre : List Att), (pre ++ r).length ≤ lim →
    ToEnd cfg 22 (bodyOf Try.f22) (RetIs Try.prog Try.f22 (.tup [.str (attrOf r nm).1, .bool (attrOf r nm).2])) [.code [0, 1, 0, 1], .block 0, .code [1, 1]] .normal
      [(1, true, .str nm), (2, true, .ptr 0 0), (6, true, .int .i64 pre.length)] [.mem 25 [.int .i64 k, .int .i64 p, .str t, .sl 3 ((pre ++ r).map encA) none, .sl 5 (encNs ks) none]] := by
  intro r
  induction r with
  | nil =>
    intro pre hl
    refine t22b hT (ifP_intro (fun hc => ?_) fun _ => rfl)
    simp at hc
  | cons x r ih =>
    intro pre hl
    have hlen : pre.length < lim := by simp at hl; omega
    have hin : inR (pre.length : Int) ((pre ++ x :: r).map encA).length = true := inR_of (by omega) (by simp; omega)
    refine t22b hT (ifP_intro (fun _ => ?_) fun hc => ?_)
    · refine gAnd_intro (by rw [hin]; rfl) ⟨x.name, x.value, x.pl, getE_pre _ _ _ _, ifP_intro (fun hq => ?_) fun hq => ?_⟩
      · refine gAnd_intro (by rw [hin]; rfl) ⟨x.name, x.value, x.pl, getE_pre _ _ _ _, ?_⟩
        simp only [attrOf, hq, cond_true]
      · refine gAnd_intro (by simp only [low_encAs, low_encNs, Bool.and_true]) ?_
        rw [wrap_succ hlen]
        have := ih (pre ++ [x]) (by simpa using hl)
        simpa [attrOf, hq] using this
    · simp at hc; omega

theorem c22 : COk cfg 22 attrC := by
  refine cok_pure pf22 fun vs h K ht => ?_
  obtain ⟨nd, nm, hf, rfl, hk⟩ := ht
  refine ⟨_, hk, ?_⟩
  have hT := ctab_ok (C := cfg) ctab_nil
  rw [encN_eq]
  rw [Nd.fit_eq] at hf
  exact t22a hT (loop22 hT _ _ _ nm nd.kids nd.attrs [] hf.2.1)

/-! The same attributes -/
theorem c30 : COk cfg 30 alikeC := by
  refine cok_pure pf30 fun vs h K ht => ?_
  obtain ⟨a, b, rfl, hk⟩ := ht
  refine ⟨_, hk, t30a (ctab_ok ctab_nil) ?_⟩
  refine ifP_intro (fun h1 => ?_) fun h1 => ?_ <;> simp [alike, h1]

theorem loop31 (hT : TabOk cfg (ctab [(30, alikeC)])) : ∀ (r s pre pre' : List Att), pre.length = pre'.length → r.length = s.length → (pre ++ r).length ≤ lim →
    ToEnd cfg 31 (bodyOf Try.f31) (RetIs Try.prog Try.f31 (.bool (alikes r s))) [.code [0, 1, 0, 1, 1], .block 0, .code [1, 1, 1]] .normal
      [(1, true, .sl 3 ((pre' ++ s).map encA) none), (2, true, .fn (.func 30) [] []), (15, true, .sl 3 ((pre ++ r).map encA) none), (16, true, .int .i64 ((pre ++ r).length : Nat)), (17, true, .int .i64 pre.length)] [] := by
  intro r
  induction r with
  | nil =>
    intro s pre pre' hp hr hl
    obtain rfl : s = [] := by simpa using hr.symm
    refine t31b hT (ifP_intro (fun hc => ?_) fun _ => rfl)
    simp at hc
  | cons x r ih =>
    intro s pre pre' hp hr hl
    obtain ⟨y, s, rfl⟩ : ∃ y s', s = y :: s' := by cases s with | nil => simp at hr | cons y s => exact ⟨y, s, rfl⟩
    have hlen : pre.length < lim := by simp at hl; omega
    have hin : inR (pre.length : Int) ((pre ++ x :: r).map encA).length = true := inR_of (by omega) (by simp; omega)
    have hin' : inR (pre.length : Int) ((pre' ++ y :: s).map encA).length = true := by rw [hp]; exact inR_of (by omega) (by simp; omega)
    refine t31b hT (ifP_intro (fun _ => ?_) fun hc => ?_)
    · refine gAnd_intro (by rw [hin]; rfl) ⟨x.name, x.value, x.pl, getE_pre _ _ _ _, gAnd_intro (by rw [hin']; rfl) ⟨y.name, y.value, y.pl, by rw [hp]; exact getE_pre _ _ _ _, x, y, rfl, ifP_intro (fun hq => ?_) fun hq => ?_⟩⟩
      · simp only [Bool.not_eq_true'] at hq
        simp [alikes, hq]
      · simp only [Bool.not_eq_false'] at hq
        refine gAnd_intro (by simp only [low_encAs, Bool.and_true]) ?_
        rw [wrap_succ hlen]
        have := ih s (pre ++ [x]) (pre' ++ [y]) (by simpa using hp) (by simpa using hr) (by simpa using hl)
        simpa [alikes, hq] using this
    · simp at hc; omega

theorem alikes_len : ∀ {r s : List Att}, r.length ≠ s.length → alikes r s = false
  | [], [], h => by simp at h
  | [], _ :: _, _ => rfl
  | _ :: _, [], _ => rfl
  | a :: r, b :: s, h => by simp only [alikes, alikes_len (r := r) (s := s) (by simpa using h), Bool.and_false]

theorem c31 : COk cfg 31 (alikesC 30) := by
  refine cok_pure pf31 fun vs h K ht => ?_
  obtain ⟨al, bl, h1, h2, rfl, hk⟩ := ht
  refine ⟨_, hk, ?_⟩
  have hT := ctab_ok (ctab_cons c30 ctab_nil)
  refine t31a hT (ifP_intro (fun hc => ?_) fun hc => ?_)
  · rw [alikes_len (by have h : ¬(al.length : Int) = bl.length := by simpa using hc
                       omega)]
  · have hc' : al.length = bl.length := by
      have h : (al.length : Int) = bl.length := by simpa using hc
      omega
    have := loop31 hT al bl [] [] rfl hc' h1
    simpa using this

theorem sames_len : ∀ {r s : List Nd}, r.length ≠ s.length → sames r s = false
  | [], [], h => by simp at h
  | [], _ :: _, _ => rfl
  | _ :: _, [], _ => rfl
  | a :: r, b :: s, h => by simp only [sames, sames_len (r := r) (s := s) (by simpa using h), Bool.and_false]

theorem loop32 {N : Nat} (hT : TabOk cfg (ctab [(21, sameC N)])) : ∀ (r s pre pre' : List Nd), pre.length = pre'.length → r.length = s.length → (pre ++ r).length ≤ lim → sizes r < N → fits r → fits s →
    ToEnd cfg 32 (bodyOf Try.f32) (RetIs Try.prog Try.f32 (.bool (sames r s))) [.code [0, 1, 0, 1, 1], .block 0, .code [1, 1, 1]] .normal
      [(1, true, .sl 5 (encNs (pre' ++ s)) none), (2, true, .fn (.func 21) [] []), (15, true, .sl 5 (encNs (pre ++ r)) none), (16, true, .int .i64 ((pre ++ r).length : Nat)), (17, true, .int .i64 pre.length)] [] := by
  intro r
  induction r with
  | nil =>
    intro s pre pre' hp hr hl hs hf hf'
    obtain rfl : s = [] := by simpa using hr.symm
    refine t32b hT (ifP_intro (fun hc => ?_) fun _ => rfl)
    simp at hc
  | cons x r ih =>
    intro s pre pre' hp hr hl hs hf hf'
    obtain ⟨y, s, rfl⟩ : ∃ y s', s = y :: s' := by cases s with | nil => simp at hr | cons y s => exact ⟨y, s, rfl⟩
    have hlen : pre.length < lim := by simp at hl; omega
    have hin : inR (pre.length : Int) (encNs (pre ++ x :: r)).length = true := by rw [encNs_length]; exact inR_of (by omega) (by simp; omega)
    have hin' : inR (pre.length : Int) (encNs (pre' ++ y :: s)).length = true := by rw [hp, encNs_length]; exact inR_of (by omega) (by simp; omega)
    rw [sizes] at hs
    refine t32b hT (ifP_intro (fun _ => ?_) fun hc => ?_)
    · refine gAnd_intro (by rw [hin]; rfl) ⟨x.kind, x.pl, x.text, x.attrs.map encA, encNs x.kids, by rw [getE_encNs, encN_eq],
        gAnd_intro (by rw [hin']; rfl) ⟨y.kind, y.pl, y.text, y.attrs.map encA, encNs y.kids, by rw [hp, getE_encNs, encN_eq], x, y, by omega, hf.1, hf'.1, by simp only [stripss_encAs, stripss_encNs, encN_eq], ifP_intro (fun hq => ?_) fun hq => ?_⟩⟩
      · simp only [Bool.not_eq_true'] at hq
        simp [sames, hq]
      · simp only [Bool.not_eq_false'] at hq
        refine gAnd_intro (by simp only [low_encNs, Bool.and_true]) ?_
        rw [wrap_succ hlen]
        have := ih s (pre ++ [x]) (pre' ++ [y]) (by simpa using hp) (by simpa using hr) (by simpa using hl) (by omega) hf.2 hf'.2
        simpa [sames, hq] using this
    · simp at hc; omega

theorem c32 {N : Nat} (h21 : COk cfg 21 (sameC N)) : COk cfg 32 (samesC 21 N) := by
  refine cok_pure pf32 fun vs h K ht => ?_
  obtain ⟨al, bl, h0, hf, hf', h1, h2, rfl, hk⟩ := ht
  refine ⟨_, hk, ?_⟩
  have hT := ctab_ok (ctab_cons h21 ctab_nil)
  refine t32a hT (ifP_intro (fun hc => ?_) fun hc => ?_)
  · rw [sames_len (by have h : ¬(al.length : Int) = bl.length := by simpa [encNs_length] using hc
                      omega)]
  · have hc' : al.length = bl.length := by
      have h : (al.length : Int) = bl.length := by simpa [encNs_length] using hc
      omega
    have := loop32 hT al bl [] [] rfl hc' h1 h0 hf hf'
    simpa [encNs_length] using this

theorem c21 : ∀ N, COk cfg 21 (sameC N)
  | 0 => fun l h K ht => by obtain ⟨nd, l, h, _⟩ := ht; omega
  | N + 1 => by
    have hT := ctab_ok (ctab_cons c31 (ctab_cons (c32 (c21 N)) ctab_nil))
    refine cok_pure pf21 fun vs h K ht => ?_
    obtain ⟨a, b, hs, hf, hf', rfl, hk⟩ := ht
    refine ⟨_, hk, ?_⟩
    rw [Nd.fit_eq] at hf hf'
    rw [Nd.size_eq] at hs
    simp only [encN_eq]
    refine t21a hT ?_
    rw [Nd.same_eq]
    refine ifP_intro (fun h1 => ifP_intro (fun h2 => ⟨a.attrs, b.attrs, hf.2.1, hf'.2.1, by simp only [stripss_encAs], ifP_intro (fun h3 => ⟨a.kids, b.kids, by omega, hf.2.2.2.2, hf'.2.2.2.2, hf.2.2.2.1, hf'.2.2.2.1, by simp only [stripss_encNs], ?_⟩) fun h3 => ?_⟩) fun h2 => ?_) fun h1 => ?_
    all_goals simp_all

/-! Same, the document's -/
theorem loop24c {N : Nat} (hT : TabOk cfg (ctab [(24, sameC N)])) (k p k' p' : Int) (t t' : List UInt8) (al al' : List Att) : ∀ (r s pre pre' : List Nd), pre.length = pre'.length → r.length = s.length → (pre ++ r).length ≤ lim → sizes r < N → fits r → fits s →
    ToEnd cfg 24 (bodyOf Try.f24) (RetIs Try.prog Try.f24 (.bool (sames r s))) [.code [0, 1, 0, 1, 1, 1], .block 2, .code [1, 1, 1, 1]] .normal
      [(2, true, .ptr 0 0), (3, true, .ptr 1 0), (6, true, .int .i64 pre.length)] [.mem 25 [.int .i64 k, .int .i64 p, .str t, .sl 3 (al.map encA) none, .sl 5 (encNs (pre ++ r)) none], .mem 25 [.int .i64 k', .int .i64 p', .str t', .sl 3 (al'.map encA) none, .sl 5 (encNs (pre' ++ s)) none]] := by
  intro r
  induction r with
  | nil =>
    intro s pre pre' hp hr hl hs hf hf'
    obtain rfl : s = [] := by simpa using hr.symm
    refine t24c hT (ifP_intro (fun hc => ?_) fun _ => rfl)
    simp [encNs_length] at hc
  | cons x r ih =>
    intro s pre pre' hp hr hl hs hf hf'
    obtain ⟨y, s, rfl⟩ : ∃ y s', s = y :: s' := by cases s with | nil => simp at hr | cons y s => exact ⟨y, s, rfl⟩
    have hlen : pre.length < lim := by simp at hl; omega
    have hin : inR (pre.length : Int) (encNs (pre ++ x :: r)).length = true := by rw [encNs_length]; exact inR_of (by omega) (by simp; omega)
    have hin' : inR (pre.length : Int) (encNs (pre' ++ y :: s)).length = true := by rw [hp, encNs_length]; exact inR_of (by omega) (by simp; omega)
    rw [sizes] at hs
    refine t24c hT (ifP_intro (fun _ => ?_) fun hc => ?_)
    · refine gAnd_intro (by rw [hin]; rfl) ⟨x.kind, x.pl, x.text, x.attrs.map encA, encNs x.kids, by rw [getE_encNs, encN_eq],
        gAnd_intro (by rw [hin']; rfl) ⟨y.kind, y.pl, y.text, y.attrs.map encA, encNs y.kids, by rw [hp, getE_encNs, encN_eq], x, y, by omega, hf.1, hf'.1, by simp only [stripss_encAs, stripss_encNs, encN_eq], ifP_intro (fun hq => ?_) fun hq => ?_⟩⟩
      · simp only [Bool.not_eq_true'] at hq
        simp [sames, hq]
      · simp only [Bool.not_eq_false'] at hq
        refine gAnd_intro (by simp only [low_encAs, low_encNs, Bool.and_true]) ?_
        rw [wrap_succ hlen]
        have := ih s (pre ++ [x]) (pre' ++ [y]) (by simpa using hp) (by simpa using hr) (by simpa using hl) (by omega) hf.2 hf'.2
        simpa [sames, hq] using this
    · simp [encNs_length] at hc; omega

theorem loop24b {N : Nat} (hT : TabOk cfg (ctab [(24, sameC N)])) (k p k' p' : Int) (t t' : List UInt8) (ks ks' : List Nd) (hk : ks.length = ks'.length) (hkl : ks.length ≤ lim) (hN : sizes ks < N) (hf : fits ks) (hf' : fits ks') : ∀ (r s pre pre' : List Att), pre.length = pre'.length → r.length = s.length → (pre ++ r).length ≤ lim →
    ToEnd cfg 24 (bodyOf Try.f24) (RetIs Try.prog Try.f24 (.bool (alikes r s && sames ks ks'))) [.code [0, 1, 0, 1, 1], .block 0, .code [1, 1, 1]] .normal
      [(2, true, .ptr 0 0), (3, true, .ptr 1 0), (5, true, .int .i64 pre.length)] [.mem 25 [.int .i64 k, .int .i64 p, .str t, .sl 3 ((pre ++ r).map encA) none, .sl 5 (encNs ks) none], .mem 25 [.int .i64 k', .int .i64 p', .str t', .sl 3 ((pre' ++ s).map encA) none, .sl 5 (encNs ks') none]] := by
  intro r
  induction r with
  | nil =>
    intro s pre pre' hp hr hl
    obtain rfl : s = [] := by simpa using hr.symm
    refine t24b hT (ifP_intro (fun hc => ?_) fun _ => ?_)
    · simp at hc
    · have := loop24c hT k p k' p' t t' (pre ++ []) (pre' ++ []) ks ks' [] [] rfl hk hkl hN hf hf'
      simpa [alikes] using this
  | cons x r ih =>
    intro s pre pre' hp hr hl
    obtain ⟨y, s, rfl⟩ : ∃ y s', s = y :: s' := by cases s with | nil => simp at hr | cons y s => exact ⟨y, s, rfl⟩
    have hlen : pre.length < lim := by simp at hl; omega
    have hin : inR (pre.length : Int) ((pre ++ x :: r).map encA).length = true := inR_of (by omega) (by simp; omega)
    have hin' : inR (pre.length : Int) ((pre' ++ y :: s).map encA).length = true := by rw [hp]; exact inR_of (by omega) (by simp; omega)
    refine t24b hT (ifP_intro (fun _ => ?_) fun hc => ?_)
    · refine gAnd_intro (by rw [hin]; rfl) ⟨x.name, x.value, x.pl, getE_pre _ _ _ _, gAnd_intro (by rw [hin']; rfl) ⟨y.name, y.value, y.pl, by rw [hp]; exact getE_pre _ _ _ _, ifP_intro (fun hq => ?_) fun hq => ?_⟩⟩
      · simp only [Bool.not_eq_true'] at hq
        simp [alikes, alike, hq]
      · simp only [Bool.not_eq_false'] at hq
        refine gAnd_intro (by rw [hin]; rfl) ⟨x.name, x.value, x.pl, getE_pre _ _ _ _, gAnd_intro (by rw [hin']; rfl) ⟨y.name, y.value, y.pl, by rw [hp]; exact getE_pre _ _ _ _, ifP_intro (fun hw => ?_) fun hw => ?_⟩⟩
        · simp only [Bool.not_eq_true'] at hw
          simp [alikes, alike, hw]
        · simp only [Bool.not_eq_false'] at hw
          refine gAnd_intro (by simp only [low_encAs, low_encNs, Bool.and_true]) ?_
          rw [wrap_succ hlen]
          have := ih s (pre ++ [x]) (pre' ++ [y]) (by simpa using hp) (by simpa using hr) (by simpa using hl)
          simpa [alikes, alike, hq, hw] using this
    · simp at hc; omega

theorem c24 : ∀ N, COk cfg 24 (sameC N)
  | 0 => fun l h K ht => by obtain ⟨nd, l, h, _⟩ := ht; omega
  | N + 1 => by
    have hT := ctab_ok (ctab_cons (c24 N) ctab_nil)
    refine cok_pure pf24 fun vs h K ht => ?_
    obtain ⟨a, b, hs, hf, hf', rfl, hk⟩ := ht
    refine ⟨_, hk, ?_⟩
    rw [Nd.fit_eq] at hf hf'
    rw [Nd.size_eq] at hs
    simp only [encN_eq]
    refine t24a hT ?_
    rw [Nd.same_eq]
    refine ifP_intro (fun h1 => ?_) (fun h1 => ifP_intro (fun h2 => ?_) fun h2 => ifP_intro (fun h3 => ?_) fun h3 => ifP_intro (fun h4 => ?_) fun h4 => ?_)
    · have : (a.kind == b.kind) = false := by simpa using h1
      simp [this]
    · have : (a.text == b.text) = false := by simpa using h2
      simp [this]
    · rw [alikes_len (by have h : ¬(a.attrs.length : Int) = b.attrs.length := by simpa using h3
                         omega)]
      simp
    · rw [sames_len (by have h : ¬(a.kids.length : Int) = b.kids.length := by simpa [encNs_length] using h4
                        omega)]
      simp
    · have e1 : (a.kind == b.kind) = true := by simpa using h1
      have e2 : (a.text == b.text) = true := by simpa using h2
      have e3 : (a.attrs.length : Int) = b.attrs.length := by simpa using h3
      have e4 : (a.kids.length : Int) = b.kids.length := by simpa [encNs_length] using h4
      have := loop24b hT a.kind a.pl b.kind b.pl a.text b.text a.kids b.kids (by omega) hf.2.2.2.1 (by omega) hf.2.2.2.2 hf'.2.2.2.2 a.attrs b.attrs [] [] rfl (by omega) hf.2.1
      simpa [e1, e2] using this

/-! Depth, the document's and the program's -/
theorem pf23 : pureFn cfg 23 Try.f23 := ⟨by kernel_rfl, by kernel_rfl, by kernel_rfl, by kernel_rfl, by kernel_rfl, by kernel_rfl⟩
theorem pf19 : pureFn cfg 19 Try.f19 := ⟨by kernel_rfl, by kernel_rfl, by kernel_rfl, by kernel_rfl, by kernel_rfl, by kernel_rfl⟩
def more (x : Nd) : Nat := if x.kind = 2 then x.depth else x.depth + 1
theorem depths_more (x : Nd) (r : List Nd) : depths (x :: r) = max (more x) (depths r) := by
  unfold more
  by_cases h : x.kind = 2
  · rw [depths_text h, if_pos h]
  · rw [depths_other h, if_neg h]
theorem more_le (x : Nd) : more x ≤ x.size := by
  have := x.depth_le
  unfold more
  split <;> omega

theorem loop23 {N : Nat} (hT : TabOk cfg (ctab [(23, depthC N)])) (hN : N ≤ 1000000) (k p : Int) (t : List UInt8) (al : List Att) : ∀ (r pre : List Nd) (acc : Nat), acc ≤ 1000000 → (sizes (pre ++ r) < N) →
    ToEnd cfg 23 (bodyOf Try.f23) (RetIs Try.prog Try.f23 (.int .i64 (max acc (depths r) : Nat))) [.code [0, 1, 0, 1, 1], .block 0, .code [1, 1, 1]] .normal
      [(1, true, .ptr 0 0), (3, true, .int .i64 acc), (4, true, .int .i64 pre.length)] [.mem 25 [.int .i64 k, .int .i64 p, .str t, .sl 3 (al.map encA) none, .sl 5 (encNs (pre ++ r)) none]] := by
  intro r
  induction r with
  | nil =>
    intro pre acc ha hs
    refine t23b hT (ifP_intro (fun hc => ?_) (fun _ => ?_))
    · simp [encNs_length] at hc
    · simp [depths]
  | cons x r ih =>
    intro pre acc ha hs
    have hx := x.depth_le
    have hs' : sizes pre + (x.size + sizes r) < N := by simpa [sizes_append, sizes] using hs
    have hpl := sizes_len pre
    have hm := more_le x
    have next := fun acc' ha' => ih (pre ++ [x]) acc' ha' (by simpa using hs)
    simp only [List.append_assoc, List.singleton_append, List.length_append, List.length_singleton] at next
    have hr : inR (pre.length : Int) (encNs (pre ++ x :: r)).length = true := by rw [encNs_length]; exact inR_of (by omega) (by simp; omega)
    have hd : IntKind.wrap .i64 ((x.depth : Int) + 1) = ((x.depth + 1 : Nat) : Int) := wrap_succ (by unfold lim; omega)
    rw [depths_more]
    refine t23b hT (ifP_intro (fun _ => ?_) (fun hc => ?_))
    · refine gAnd_intro (by rw [hr]; rfl) ⟨x.kind, x.pl, x.text, x.attrs.map encA, encNs x.kids, by rw [getE_encNs, encN_eq], x, by omega, by simp only [stripss_encAs, stripss_encNs, encN_eq], ?_⟩
      refine gAnd_intro (by rw [hr]; rfl) ⟨x.kind, x.pl, x.text, x.attrs.map encA, encNs x.kids, by rw [getE_encNs, encN_eq], ?_⟩
      rw [wrap_succ (n := pre.length) (by unfold lim; omega), hd]
      refine ifP_intro (fun hk => ?_) fun hk => ?_
      · have e : more x = x.depth + 1 := if_neg (by simpa using hk)
        rw [e]
        refine ifP_intro (fun hg => ?_) fun hg => ?_ <;> refine gAnd_intro (by simp only [low_encAs, low_encNs, Bool.and_true]) ?_ <;> simp only [decide_eq_true_eq, decide_eq_false_iff_not, gt_iff_lt] at hg
        · rw [show max acc (max (x.depth + 1) (depths r)) = max (x.depth + 1) (depths r) by omega]
          exact next _ (by omega)
        · rw [show max acc (max (x.depth + 1) (depths r)) = max acc (depths r) by omega]
          exact next _ ha
      · have e : more x = x.depth := if_pos (by simpa using hk)
        rw [e]
        refine ifP_intro (fun hg => ?_) fun hg => ?_ <;> refine gAnd_intro (by simp only [low_encAs, low_encNs, Bool.and_true]) ?_ <;> simp only [decide_eq_true_eq, decide_eq_false_iff_not, gt_iff_lt] at hg
        · rw [show max acc (max x.depth (depths r)) = max x.depth (depths r) by omega]
          exact next _ (by omega)
        · rw [show max acc (max x.depth (depths r)) = max acc (depths r) by omega]
          exact next _ ha
    · simp [encNs_length] at hc; omega

theorem c23 : ∀ N, N ≤ 1000000 → COk cfg 23 (depthC N)
  | 0, _ => fun l h K ht => by obtain ⟨nd, h, _⟩ := ht; omega
  | N + 1, hN => by
    have hT := ctab_ok (ctab_cons (c23 N (by omega)) ctab_nil)
    refine cok_pure pf23 fun vs h K ht => ?_
    obtain ⟨nd, hs, rfl, hk⟩ := ht
    refine ⟨_, hk, ?_⟩
    rw [Nd.size_eq] at hs
    rw [encN_eq, Nd.depth_eq]
    refine t23a hT ?_
    have := loop23 hT (by omega) nd.kind nd.pl nd.text nd.attrs nd.kids [] 0 (by omega) (by simpa using by omega)
    simpa using this

theorem loop19 {N : Nat} (hT : TabOk cfg (ctab [(19, depthC N)])) (hN : N ≤ 1000000) (k p : Int) (t : List UInt8) (al : List Att) : ∀ (r pre : List Nd) (acc : Nat), acc ≤ 1000000 → (sizes (pre ++ r) < N) →
    ToEnd cfg 19 (bodyOf Try.f19) (RetIs Try.prog Try.f19 (.int .i64 (max acc (depths r) : Nat))) [.code [0, 1, 0, 1, 1], .block 0, .code [1, 1, 1]] .normal
      [(3, true, .int .i64 acc), (8, true, .sl 5 (encNs (pre ++ r)) none), (9, true, .int .i64 ((pre ++ r).length : Nat)), (10, true, .int .i64 pre.length)] [.mem 25 [.int .i64 k, .int .i64 p, .str t, .sl 3 (al.map encA) none, .sl 5 (encNs (pre ++ r)) none]] := by
  intro r
  induction r with
  | nil =>
    intro pre acc ha hs
    refine t19b hT (ifP_intro (fun hc => ?_) (fun _ => ?_))
    · simp at hc
    · simp [depths]
  | cons x r ih =>
    intro pre acc ha hs
    have hx := x.depth_le
    have hs' : sizes pre + (x.size + sizes r) < N := by simpa [sizes_append, sizes] using hs
    have hpl := sizes_len pre
    have hm := more_le x
    have next := fun acc' ha' => ih (pre ++ [x]) acc' ha' (by simpa using hs)
    have hpx : (pre ++ [x]).length = pre.length + 1 := by simp
    simp only [hpx, List.append_assoc, List.singleton_append] at next
    have hr : inR (pre.length : Int) (encNs (pre ++ x :: r)).length = true := by rw [encNs_length]; exact inR_of (by omega) (by simp; omega)
    have hd : IntKind.wrap .i64 ((x.depth : Int) + 1) = ((x.depth + 1 : Nat) : Int) := wrap_succ (by unfold lim; omega)
    rw [depths_more]
    refine t19b hT (ifP_intro (fun _ => ?_) (fun hc => ?_))
    · refine gAnd_intro (by rw [hr]; rfl) ⟨x.kind, x.pl, x.text, x.attrs.map encA, encNs x.kids, by rw [getE_encNs, encN_eq], x, by omega, by simp only [stripss_encAs, stripss_encNs, encN_eq], ?_⟩
      rw [wrap_succ (n := pre.length) (by unfold lim; omega), hd]
      refine ifP_intro (fun hk => ?_) fun hk => ?_ <;> refine gAnd_intro (by simp only [low_encAs, low_encNs, Bool.and_true]) ?_
      · have e : more x = x.depth + 1 := if_neg (by simpa using hk)
        rw [e, show max acc (max (x.depth + 1) (depths r)) = max (max acc (x.depth + 1)) (depths r) by omega]
        have := next (max acc (x.depth + 1)) (by omega)
        rw [show max (acc : Int) ((x.depth + 1 : Nat) : Int) = ((max acc (x.depth + 1) : Nat) : Int) by omega]
        exact this
      · have e : more x = x.depth := if_pos (by simpa using hk)
        rw [e, show max acc (max x.depth (depths r)) = max (max acc x.depth) (depths r) by omega]
        have := next (max acc x.depth) (by omega)
        rw [show max (acc : Int) (x.depth : Int) = ((max acc x.depth : Nat) : Int) by omega]
        exact this
    · simp at hc; omega

theorem c19 : ∀ N, N ≤ 1000000 → COk cfg 19 (depthC N)
  | 0, _ => fun l h K ht => by obtain ⟨nd, h, _⟩ := ht; omega
  | N + 1, hN => by
    have hT := ctab_ok (ctab_cons (c19 N (by omega)) ctab_nil)
    refine cok_pure pf19 fun vs h K ht => ?_
    obtain ⟨nd, hs, rfl, hk⟩ := ht
    refine ⟨_, hk, ?_⟩
    rw [Nd.size_eq] at hs
    rw [encN_eq, Nd.depth_eq]
    refine t19a hT ?_
    have := loop19 hT (by omega) nd.kind nd.pl nd.text nd.attrs nd.kids [] 0 (by omega) (by simpa using by omega)
    rw [encNs_length]
    simpa using this
end Go.Proofs.Ytpfbpidlglelgaa
end

section
namespace Go.Proofs.Ytpfbpidlglelgaa
open Go.Ai Go
set_option maxRecDepth 100000
set_option linter.unusedVariables false
theorem t29a {K : AV → Hp → Prop} {xk xp : Int} {xt : List UInt8} {xa xs : List (List AV)} {nm an av : List UInt8} {ai : Int} (hT : TabOk cfg (ctab [])) (H :
    K (AV.bool (an == nm)) [Blk.mem 25 [AV.int IntKind.i64 xk, AV.int IntKind.i64 xp, AV.str xt, AV.sl 3 (stripss 2 [Blk.mem 25 [AV.int IntKind.i64 xk, AV.int IntKind.i64 xp, AV.str xt, AV.sl 3 xa none, AV.sl 5 xs none], Blk.mem 9 [AV.str nm], Blk.mem 41 [AV.str an, AV.str av, AV.int IntKind.i64 ai]] xa) none, AV.sl 5 (stripss 2 [Blk.mem 25 [AV.int IntKind.i64 xk, AV.int IntKind.i64 xp, AV.str xt, AV.sl 3 xa none, AV.sl 5 xs none], Blk.mem 9 [AV.str nm], Blk.mem 41 [AV.str an, AV.str av, AV.int IntKind.i64 ai]] xs) none], Blk.mem 9 [AV.str nm]]) :
    ToEnd cfg 29 (bodyOf Try.f29) (RetIn Try.prog Try.f29 2 K) ([.code []]) .normal ([(0, true, .agg [.str an, .str av, .int .i64 ai]), (1, true, .ptr 1 0)]) ([.mem 25 [.int .i64 xk, .int .i64 xp, .str xt, .sl 3 xa none, .sl 5 xs none], .mem 9 [.str nm]]) := by
  have e : unr cfg 29 (bodyOf Try.f29) (ctab []) ⟨[], []⟩ (RetIn Try.prog Try.f29 2 K) 100000 ([.code []]) .normal ([(0, true, .agg [.str an, .str av, .int .i64 ai]), (1, true, .ptr 1 0)]) ([.mem 25 [.int .i64 xk, .int .i64 xp, .str xt, .sl 3 xa none, .sl 5 xs none], .mem 9 [.str nm]]) =
    (K (AV.bool (an == nm)) [Blk.mem 25 [AV.int IntKind.i64 xk, AV.int IntKind.i64 xp, AV.str xt, AV.sl 3 (stripss 2 [Blk.mem 25 [AV.int IntKind.i64 xk, AV.int IntKind.i64 xp, AV.str xt, AV.sl 3 xa none, AV.sl 5 xs none], Blk.mem 9 [AV.str nm], Blk.mem 41 [AV.str an, AV.str av, AV.int IntKind.i64 ai]] xa) none, AV.sl 5 (stripss 2 [Blk.mem 25 [AV.int IntKind.i64 xk, AV.int IntKind.i64 xp, AV.str xt, AV.sl 3 xa none, AV.sl 5 xs none], Blk.mem 9 [AV.str nm], Blk.mem 41 [AV.str an, AV.str av, AV.int IntKind.i64 ai]] xs) none], Blk.mem 9 [AV.str nm]]) := by kernel_rfl
  exact unr_ok hT 100000 _ _ _ _ (e.mpr H)

theorem t28a {K : AV → Hp → Prop} {xk xp : Int} {xt : List UInt8} {xa xs : List (List AV)} {nm : List UInt8} {ea : List (List AV)} (hT : TabOk cfg (ctab [(29, isNameC)])) (H :
    ToEnd cfg 28 (bodyOf Try.f28) (RetIn Try.prog Try.f28 2 K) [Fm.code [0, 1, 0, 1], Fm.block 0, Fm.code [1, 1]] XT.normal [(0, true, AV.sl 3 ea none), (1, true, AV.fn (Fn.func 29) [] [AV.ptr 1 0]), (7, true, AV.int IntKind.i64 (↑(List.length ea) : Int)), (8, true, AV.int IntKind.i64 0)] [Blk.mem 25 [AV.int IntKind.i64 xk, AV.int IntKind.i64 xp, AV.str xt, AV.sl 3 xa none, AV.sl 5 xs none], Blk.mem 9 [AV.str nm]]) :
    ToEnd cfg 28 (bodyOf Try.f28) (RetIn Try.prog Try.f28 2 K) ([.code []]) .normal ([(0, true, .sl 3 ea none), (1, true, .fn (.func 29) [] [.ptr 1 0])]) ([.mem 25 [.int .i64 xk, .int .i64 xp, .str xt, .sl 3 xa none, .sl 5 xs none], .mem 9 [.str nm]]) := by
  have e : unr cfg 28 (bodyOf Try.f28) (ctab [(29, isNameC)]) ⟨[[0, 1, 0, 1]], [([0, 1, 0, 0, 1, 1, 0, 0, 1, 0, 1], 3, [.str, .str, .int .i64])]⟩ (RetIn Try.prog Try.f28 2 K) 100000 ([.code []]) .normal ([(0, true, .sl 3 ea none), (1, true, .fn (.func 29) [] [.ptr 1 0])]) ([.mem 25 [.int .i64 xk, .int .i64 xp, .str xt, .sl 3 xa none, .sl 5 xs none], .mem 9 [.str nm]]) =
    (ToEnd cfg 28 (bodyOf Try.f28) (RetIn Try.prog Try.f28 2 K) [Fm.code [0, 1, 0, 1], Fm.block 0, Fm.code [1, 1]] XT.normal [(0, true, AV.sl 3 ea none), (1, true, AV.fn (Fn.func 29) [] [AV.ptr 1 0]), (7, true, AV.int IntKind.i64 (↑(List.length ea) : Int)), (8, true, AV.int IntKind.i64 0)] [Blk.mem 25 [AV.int IntKind.i64 xk, AV.int IntKind.i64 xp, AV.str xt, AV.sl 3 xa none, AV.sl 5 xs none], Blk.mem 9 [AV.str nm]]) := by kernel_rfl
  exact unr_ok hT 100000 _ _ _ _ (e.mpr H)

theorem t28b {K : AV → Hp → Prop} {xk xp : Int} {xt : List UInt8} {xa xs : List (List AV)} {nm : List UInt8} {ea : List (List AV)} {i7 : Int} {i8 : Int} (hT : TabOk cfg (ctab [(29, isNameC)])) (H :
    ifP (decide (i8 < i7)) (gAnd (inR i8 (List.length ea) && true && true) (∃ (s1 : List UInt8), ∃ (s2 : List UInt8), ∃ (z3 : Int), getE ea i8 = [AV.str s1, AV.str s2, AV.int IntKind.i64 z3] ∧ ∃ (n4 : Nd), ∃ (a5 : Att), ∃ (nm6 : List UInt8), [Blk.mem 25 [AV.int IntKind.i64 xk, AV.int IntKind.i64 xp, AV.str xt, AV.sl 3 xa none, AV.sl 5 xs none], Blk.mem 9 [AV.str nm]] = [Blk.mem 25 [AV.int IntKind.i64 (Nd.kind n4), AV.int IntKind.i64 (Nd.pl n4), AV.str (Nd.text n4), AV.sl 3 (List.map encA (Nd.attrs n4)) none, AV.sl 5 (encNs (Nd.kids n4)) none], Blk.mem 9 [AV.str nm6]] ∧ [AV.agg [AV.str s1, AV.str s2, AV.int IntKind.i64 z3], AV.ptr 1 0] = [AV.agg [AV.str (Att.name a5), AV.str (Att.value a5), AV.int IntKind.i64 (Att.pl a5)], AV.ptr 1 0] ∧ ifP (Att.name a5 == nm6) (K (AV.int IntKind.i64 i8) [Blk.mem 25 [AV.int IntKind.i64 (Nd.kind n4), AV.int IntKind.i64 (Nd.pl n4), AV.str (Nd.text n4), AV.sl 3 (stripss 2 [Blk.mem 25 [AV.int IntKind.i64 (Nd.kind n4), AV.int IntKind.i64 (Nd.pl n4), AV.str (Nd.text n4), AV.sl 3 (List.map encA (Nd.attrs n4)) none, AV.sl 5 (encNs (Nd.kids n4)) none], Blk.mem 9 [AV.str nm6]] (List.map encA (Nd.attrs n4))) none, AV.sl 5 (stripss 2 [Blk.mem 25 [AV.int IntKind.i64 (Nd.kind n4), AV.int IntKind.i64 (Nd.pl n4), AV.str (Nd.text n4), AV.sl 3 (List.map encA (Nd.attrs n4)) none, AV.sl 5 (encNs (Nd.kids n4)) none], Blk.mem 9 [AV.str nm6]] (encNs (Nd.kids n4))) none], Blk.mem 9 [AV.str nm6]]) (gAnd (lowVss 2 ea && true && true && (lowVss 2 (List.map encA (Nd.attrs n4)) && true && (lowVss 2 (encNs (Nd.kids n4)) && true && true) && true)) (ToEnd cfg 28 (bodyOf Try.f28) (RetIn Try.prog Try.f28 2 K) [Fm.code [0, 1, 0, 1], Fm.block 0, Fm.code [1, 1]] XT.normal [(0, true, AV.sl 3 ea none), (1, true, AV.fn (Fn.func 29) [] [AV.ptr 1 0]), (7, true, AV.int IntKind.i64 i7), (8, true, AV.int IntKind.i64 (IntKind.wrap IntKind.i64 (i8 + 1)))] [Blk.mem 25 [AV.int IntKind.i64 (Nd.kind n4), AV.int IntKind.i64 (Nd.pl n4), AV.str (Nd.text n4), AV.sl 3 (List.map encA (Nd.attrs n4)) none, AV.sl 5 (encNs (Nd.kids n4)) none], Blk.mem 9 [AV.str nm6]])))) (K (AV.int IntKind.i64 (-1)) [Blk.mem 25 [AV.int IntKind.i64 xk, AV.int IntKind.i64 xp, AV.str xt, AV.sl 3 (stripss 2 [Blk.mem 25 [AV.int IntKind.i64 xk, AV.int IntKind.i64 xp, AV.str xt, AV.sl 3 xa none, AV.sl 5 xs none], Blk.mem 9 [AV.str nm]] xa) none, AV.sl 5 (stripss 2 [Blk.mem 25 [AV.int IntKind.i64 xk, AV.int IntKind.i64 xp, AV.str xt, AV.sl 3 xa none, AV.sl 5 xs none], Blk.mem 9 [AV.str nm]] xs) none], Blk.mem 9 [AV.str nm]])) :
    ToEnd cfg 28 (bodyOf Try.f28) (RetIn Try.prog Try.f28 2 K) ([.code [0, 1, 0, 1], Fm.block 0, Fm.code [1, 1]]) .normal ([(0, true, AV.sl 3 ea none), (1, true, AV.fn (Fn.func 29) [] [AV.ptr 1 0]), (7, true, AV.int IntKind.i64 i7), (8, true, AV.int IntKind.i64 i8)]) ([Blk.mem 25 [AV.int IntKind.i64 xk, AV.int IntKind.i64 xp, AV.str xt, AV.sl 3 xa none, AV.sl 5 xs none], Blk.mem 9 [AV.str nm]]) := by
  have e : unr cfg 28 (bodyOf Try.f28) (ctab [(29, isNameC)]) ⟨[[0, 1, 0, 1]], [([0, 1, 0, 0, 1, 1, 0, 0, 1, 0, 1], 3, [.str, .str, .int .i64])]⟩ (RetIn Try.prog Try.f28 2 K) 100000 ([.code [0, 0, 1, 0, 1], .loop [0, 1, 0, 1] 2, Fm.block 0, Fm.code [1, 1]]) .normal ([(0, true, AV.sl 3 ea none), (1, true, AV.fn (Fn.func 29) [] [AV.ptr 1 0]), (7, true, AV.int IntKind.i64 i7), (8, true, AV.int IntKind.i64 i8)]) ([Blk.mem 25 [AV.int IntKind.i64 xk, AV.int IntKind.i64 xp, AV.str xt, AV.sl 3 xa none, AV.sl 5 xs none], Blk.mem 9 [AV.str nm]]) =
    (ifP (decide (i8 < i7)) (gAnd (inR i8 (List.length ea) && true && true) (∃ (s1 : List UInt8), ∃ (s2 : List UInt8), ∃ (z3 : Int), getE ea i8 = [AV.str s1, AV.str s2, AV.int IntKind.i64 z3] ∧ ∃ (n4 : Nd), ∃ (a5 : Att), ∃ (nm6 : List UInt8), [Blk.mem 25 [AV.int IntKind.i64 xk, AV.int IntKind.i64 xp, AV.str xt, AV.sl 3 xa none, AV.sl 5 xs none], Blk.mem 9 [AV.str nm]] = [Blk.mem 25 [AV.int IntKind.i64 (Nd.kind n4), AV.int IntKind.i64 (Nd.pl n4), AV.str (Nd.text n4), AV.sl 3 (List.map encA (Nd.attrs n4)) none, AV.sl 5 (encNs (Nd.kids n4)) none], Blk.mem 9 [AV.str nm6]] ∧ [AV.agg [AV.str s1, AV.str s2, AV.int IntKind.i64 z3], AV.ptr 1 0] = [AV.agg [AV.str (Att.name a5), AV.str (Att.value a5), AV.int IntKind.i64 (Att.pl a5)], AV.ptr 1 0] ∧ ifP (Att.name a5 == nm6) (K (AV.int IntKind.i64 i8) [Blk.mem 25 [AV.int IntKind.i64 (Nd.kind n4), AV.int IntKind.i64 (Nd.pl n4), AV.str (Nd.text n4), AV.sl 3 (stripss 2 [Blk.mem 25 [AV.int IntKind.i64 (Nd.kind n4), AV.int IntKind.i64 (Nd.pl n4), AV.str (Nd.text n4), AV.sl 3 (List.map encA (Nd.attrs n4)) none, AV.sl 5 (encNs (Nd.kids n4)) none], Blk.mem 9 [AV.str nm6]] (List.map encA (Nd.attrs n4))) none, AV.sl 5 (stripss 2 [Blk.mem 25 [AV.int IntKind.i64 (Nd.kind n4), AV.int IntKind.i64 (Nd.pl n4), AV.str (Nd.text n4), AV.sl 3 (List.map encA (Nd.attrs n4)) none, AV.sl 5 (encNs (Nd.kids n4)) none], Blk.mem 9 [AV.str nm6]] (encNs (Nd.kids n4))) none], Blk.mem 9 [AV.str nm6]]) (gAnd (lowVss 2 ea && true && true && (lowVss 2 (List.map encA (Nd.attrs n4)) && true && (lowVss 2 (encNs (Nd.kids n4)) && true && true) && true)) (ToEnd cfg 28 (bodyOf Try.f28) (RetIn Try.prog Try.f28 2 K) [Fm.code [0, 1, 0, 1], Fm.block 0, Fm.code [1, 1]] XT.normal [(0, true, AV.sl 3 ea none), (1, true, AV.fn (Fn.func 29) [] [AV.ptr 1 0]), (7, true, AV.int IntKind.i64 i7), (8, true, AV.int IntKind.i64 (IntKind.wrap IntKind.i64 (i8 + 1)))] [Blk.mem 25 [AV.int IntKind.i64 (Nd.kind n4), AV.int IntKind.i64 (Nd.pl n4), AV.str (Nd.text n4), AV.sl 3 (List.map encA (Nd.attrs n4)) none, AV.sl 5 (encNs (Nd.kids n4)) none], Blk.mem 9 [AV.str nm6]])))) (K (AV.int IntKind.i64 (-1)) [Blk.mem 25 [AV.int IntKind.i64 xk, AV.int IntKind.i64 xp, AV.str xt, AV.sl 3 (stripss 2 [Blk.mem 25 [AV.int IntKind.i64 xk, AV.int IntKind.i64 xp, AV.str xt, AV.sl 3 xa none, AV.sl 5 xs none], Blk.mem 9 [AV.str nm]] xa) none, AV.sl 5 (stripss 2 [Blk.mem 25 [AV.int IntKind.i64 xk, AV.int IntKind.i64 xp, AV.str xt, AV.sl 3 xa none, AV.sl 5 xs none], Blk.mem 9 [AV.str nm]] xs) none], Blk.mem 9 [AV.str nm]])) := by kernel_rfl
  exact ends_round hT 100000 (by kernel_rfl) (e.mpr H)

theorem t17a {v : AV} {xk xp : Int} {xt : List UInt8} {xa xs : List (List AV)} {nm : List UInt8} (hT : TabOk cfg (ctab [(28, findC 29)])) (H :
    ∃ (n1 : Nd), ∃ (al2 : List Att), ∃ (nm3 : List UInt8), List.length al2 ≤ 9223372036854775807 ∧ [Blk.mem 25 [AV.int IntKind.i64 xk, AV.int IntKind.i64 xp, AV.str xt, AV.sl 3 xa none, AV.sl 5 xs none], Blk.mem 9 [AV.str nm]] = [Blk.mem 25 [AV.int IntKind.i64 (Nd.kind n1), AV.int IntKind.i64 (Nd.pl n1), AV.str (Nd.text n1), AV.sl 3 (List.map encA (Nd.attrs n1)) none, AV.sl 5 (encNs (Nd.kids n1)) none], Blk.mem 9 [AV.str nm3]] ∧ [AV.sl 3 xa none, AV.fn (Fn.func 29) [] [AV.ptr 1 0]] = [AV.sl 3 (List.map encA al2) none, AV.fn (Fn.func 29) [] [AV.ptr 1 0]] ∧ ifP (decide (attrAt al2 nm3 0 < 0)) (AV.tup [AV.str [], AV.bool false] = v) (gAnd (inR (attrAt al2 nm3 0) (List.length (List.map encA (Nd.attrs n1))) && true && true) (∃ (s4 : List UInt8), ∃ (s5 : List UInt8), ∃ (z6 : Int), getE (List.map encA (Nd.attrs n1)) (attrAt al2 nm3 0) = [AV.str s4, AV.str s5, AV.int IntKind.i64 z6] ∧ AV.tup [AV.str s5, AV.bool true] = v))) :
    ToEnd cfg 17 (bodyOf Try.f17) (RetIs Try.prog Try.f17 v) ([.code []]) .normal ([(0, true, .agg [.int .i64 xk, .int .i64 xp, .str xt, .sl 3 xa none, .sl 5 xs none]), (1, true, .str nm)]) ([]) := by
  have e : unr cfg 17 (bodyOf Try.f17) (ctab [(28, findC 29)]) ⟨[], [([0, 1, 1, 1], 3, [.str, .str, .int .i64])]⟩ (RetIs Try.prog Try.f17 v) 100000 ([.code []]) .normal ([(0, true, .agg [.int .i64 xk, .int .i64 xp, .str xt, .sl 3 xa none, .sl 5 xs none]), (1, true, .str nm)]) ([]) =
    (∃ (n1 : Nd), ∃ (al2 : List Att), ∃ (nm3 : List UInt8), List.length al2 ≤ 9223372036854775807 ∧ [Blk.mem 25 [AV.int IntKind.i64 xk, AV.int IntKind.i64 xp, AV.str xt, AV.sl 3 xa none, AV.sl 5 xs none], Blk.mem 9 [AV.str nm]] = [Blk.mem 25 [AV.int IntKind.i64 (Nd.kind n1), AV.int IntKind.i64 (Nd.pl n1), AV.str (Nd.text n1), AV.sl 3 (List.map encA (Nd.attrs n1)) none, AV.sl 5 (encNs (Nd.kids n1)) none], Blk.mem 9 [AV.str nm3]] ∧ [AV.sl 3 xa none, AV.fn (Fn.func 29) [] [AV.ptr 1 0]] = [AV.sl 3 (List.map encA al2) none, AV.fn (Fn.func 29) [] [AV.ptr 1 0]] ∧ ifP (decide (attrAt al2 nm3 0 < 0)) (AV.tup [AV.str [], AV.bool false] = v) (gAnd (inR (attrAt al2 nm3 0) (List.length (List.map encA (Nd.attrs n1))) && true && true) (∃ (s4 : List UInt8), ∃ (s5 : List UInt8), ∃ (z6 : Int), getE (List.map encA (Nd.attrs n1)) (attrAt al2 nm3 0) = [AV.str s4, AV.str s5, AV.int IntKind.i64 z6] ∧ AV.tup [AV.str s5, AV.bool true] = v))) := by kernel_rfl
  exact unr_ok hT 100000 _ _ _ _ (e.mpr H)

theorem t6a {N : Nat} {v : AV} {xk xp : Int} {xt : List UInt8} {xa xs : List (List AV)} {yk yp : Int} {yt : List UInt8} {ya ys : List (List AV)} {nm : List UInt8} (hT : TabOk cfg (ctab [(7, fewC), (8, trueC), (17, attrC), (22, attrC), (19, depthC N), (23, depthC N), (21, sameC N), (24, sameC N)])) (H :
    ∃ (nd1 : Nd), Nd.fit nd1 ∧ [AV.agg [AV.int IntKind.i64 xk, AV.int IntKind.i64 xp, AV.str xt, AV.sl 3 (stripss 0 [] xa) none, AV.sl 5 (stripss 0 [] xs) none]] = [AV.agg (encN nd1)] ∧ ifP (!decide (0 < Nd.left nd1 600)) (true = true ∧ AV.bool true = v) (∃ (nd2 : Nd), Nd.fit nd2 ∧ [AV.agg [AV.int IntKind.i64 yk, AV.int IntKind.i64 yp, AV.str yt, AV.sl 3 (stripss 0 [] ya) none, AV.sl 5 (stripss 0 [] ys) none]] = [AV.agg (encN nd2)] ∧ ifP (!decide (0 < Nd.left nd2 600)) (true = true ∧ AV.bool true = v) (ifP (decide ((↑(List.length nm) : Int) > 1000)) (true = true ∧ AV.bool true = v) (∃ (nd3 : Nd), ∃ (nm4 : List UInt8), Nd.fit nd3 ∧ [AV.agg [AV.int IntKind.i64 xk, AV.int IntKind.i64 xp, AV.str xt, AV.sl 3 (stripss 0 [] xa) none, AV.sl 5 (stripss 0 [] xs) none], AV.str nm] = [AV.agg (encN nd3), AV.str nm4] ∧ ∃ (nd5 : Nd), ∃ (nm6 : List UInt8), Nd.fit nd5 ∧ [AV.agg [AV.int IntKind.i64 xk, AV.int IntKind.i64 xp, AV.str xt, AV.sl 3 (stripss 0 [] xa) none, AV.sl 5 (stripss 0 [] xs) none], AV.str nm] = [AV.agg (encN nd5), AV.str nm6] ∧ ifP (Prod.fst (attrOf (Nd.attrs nd3) nm4) == Prod.fst (attrOf (Nd.attrs nd5) nm6)) (ifP (Prod.snd (attrOf (Nd.attrs nd3) nm4) == Prod.snd (attrOf (Nd.attrs nd5) nm6)) (∃ (nd7 : Nd), Nd.size nd7 < N ∧ [AV.agg [AV.int IntKind.i64 xk, AV.int IntKind.i64 xp, AV.str xt, AV.sl 3 (stripss 0 [] xa) none, AV.sl 5 (stripss 0 [] xs) none]] = [AV.agg (encN nd7)] ∧ ∃ (nd8 : Nd), Nd.size nd8 < N ∧ [AV.agg [AV.int IntKind.i64 xk, AV.int IntKind.i64 xp, AV.str xt, AV.sl 3 (stripss 0 [] xa) none, AV.sl 5 (stripss 0 [] xs) none]] = [AV.agg (encN nd8)] ∧ ifP ((↑(Nd.depth nd7) : Int) == (↑(Nd.depth nd8) : Int)) (∃ (a9 : Nd), ∃ (b10 : Nd), Nd.size a9 < N ∧ Nd.fit a9 ∧ Nd.fit b10 ∧ [AV.agg [AV.int IntKind.i64 xk, AV.int IntKind.i64 xp, AV.str xt, AV.sl 3 (stripss 0 [] xa) none, AV.sl 5 (stripss 0 [] xs) none], AV.agg [AV.int IntKind.i64 yk, AV.int IntKind.i64 yp, AV.str yt, AV.sl 3 (stripss 0 [] ya) none, AV.sl 5 (stripss 0 [] ys) none]] = [AV.agg (encN a9), AV.agg (encN b10)] ∧ ∃ (a11 : Nd), ∃ (b12 : Nd), Nd.size a11 < N ∧ Nd.fit a11 ∧ Nd.fit b12 ∧ [AV.agg [AV.int IntKind.i64 xk, AV.int IntKind.i64 xp, AV.str xt, AV.sl 3 (stripss 0 [] xa) none, AV.sl 5 (stripss 0 [] xs) none], AV.agg [AV.int IntKind.i64 yk, AV.int IntKind.i64 yp, AV.str yt, AV.sl 3 (stripss 0 [] ya) none, AV.sl 5 (stripss 0 [] ys) none]] = [AV.agg (encN a11), AV.agg (encN b12)] ∧ ifP (Nd.same a9 b10 == Nd.same a11 b12) (∃ (a13 : Nd), ∃ (b14 : Nd), Nd.size a13 < N ∧ Nd.fit a13 ∧ Nd.fit b14 ∧ [AV.agg [AV.int IntKind.i64 xk, AV.int IntKind.i64 xp, AV.str xt, AV.sl 3 (stripss 0 [] xa) none, AV.sl 5 (stripss 0 [] xs) none], AV.agg [AV.int IntKind.i64 xk, AV.int IntKind.i64 xp, AV.str xt, AV.sl 3 (stripss 0 [] xa) none, AV.sl 5 (stripss 0 [] xs) none]] = [AV.agg (encN a13), AV.agg (encN b14)] ∧ ifP (Nd.same a13 b14) (true = true ∧ AV.bool true = v) (AV.bool false = v)) (AV.bool false = v)) (AV.bool false = v)) (AV.bool false = v)) (AV.bool false = v))))) :
    ToEnd cfg 6 (bodyOf Try.f6) (RetIs Try.prog Try.f6 v) ([.code []]) .normal ([(0, true, .agg [.int .i64 xk, .int .i64 xp, .str xt, .sl 3 xa none, .sl 5 xs none]), (1, true, .agg [.int .i64 yk, .int .i64 yp, .str yt, .sl 3 ya none, .sl 5 ys none]), (2, true, .str nm)]) ([]) := by
  have e : unr cfg 6 (bodyOf Try.f6) (ctab [(7, fewC), (8, trueC), (17, attrC), (22, attrC), (19, depthC N), (23, depthC N), (21, sameC N), (24, sameC N)]) ⟨[], []⟩ (RetIs Try.prog Try.f6 v) 100000 ([.code []]) .normal ([(0, true, .agg [.int .i64 xk, .int .i64 xp, .str xt, .sl 3 xa none, .sl 5 xs none]), (1, true, .agg [.int .i64 yk, .int .i64 yp, .str yt, .sl 3 ya none, .sl 5 ys none]), (2, true, .str nm)]) ([]) =
    (∃ (nd1 : Nd), Nd.fit nd1 ∧ [AV.agg [AV.int IntKind.i64 xk, AV.int IntKind.i64 xp, AV.str xt, AV.sl 3 (stripss 0 [] xa) none, AV.sl 5 (stripss 0 [] xs) none]] = [AV.agg (encN nd1)] ∧ ifP (!decide (0 < Nd.left nd1 600)) (true = true ∧ AV.bool true = v) (∃ (nd2 : Nd), Nd.fit nd2 ∧ [AV.agg [AV.int IntKind.i64 yk, AV.int IntKind.i64 yp, AV.str yt, AV.sl 3 (stripss 0 [] ya) none, AV.sl 5 (stripss 0 [] ys) none]] = [AV.agg (encN nd2)] ∧ ifP (!decide (0 < Nd.left nd2 600)) (true = true ∧ AV.bool true = v) (ifP (decide ((↑(List.length nm) : Int) > 1000)) (true = true ∧ AV.bool true = v) (∃ (nd3 : Nd), ∃ (nm4 : List UInt8), Nd.fit nd3 ∧ [AV.agg [AV.int IntKind.i64 xk, AV.int IntKind.i64 xp, AV.str xt, AV.sl 3 (stripss 0 [] xa) none, AV.sl 5 (stripss 0 [] xs) none], AV.str nm] = [AV.agg (encN nd3), AV.str nm4] ∧ ∃ (nd5 : Nd), ∃ (nm6 : List UInt8), Nd.fit nd5 ∧ [AV.agg [AV.int IntKind.i64 xk, AV.int IntKind.i64 xp, AV.str xt, AV.sl 3 (stripss 0 [] xa) none, AV.sl 5 (stripss 0 [] xs) none], AV.str nm] = [AV.agg (encN nd5), AV.str nm6] ∧ ifP (Prod.fst (attrOf (Nd.attrs nd3) nm4) == Prod.fst (attrOf (Nd.attrs nd5) nm6)) (ifP (Prod.snd (attrOf (Nd.attrs nd3) nm4) == Prod.snd (attrOf (Nd.attrs nd5) nm6)) (∃ (nd7 : Nd), Nd.size nd7 < N ∧ [AV.agg [AV.int IntKind.i64 xk, AV.int IntKind.i64 xp, AV.str xt, AV.sl 3 (stripss 0 [] xa) none, AV.sl 5 (stripss 0 [] xs) none]] = [AV.agg (encN nd7)] ∧ ∃ (nd8 : Nd), Nd.size nd8 < N ∧ [AV.agg [AV.int IntKind.i64 xk, AV.int IntKind.i64 xp, AV.str xt, AV.sl 3 (stripss 0 [] xa) none, AV.sl 5 (stripss 0 [] xs) none]] = [AV.agg (encN nd8)] ∧ ifP ((↑(Nd.depth nd7) : Int) == (↑(Nd.depth nd8) : Int)) (∃ (a9 : Nd), ∃ (b10 : Nd), Nd.size a9 < N ∧ Nd.fit a9 ∧ Nd.fit b10 ∧ [AV.agg [AV.int IntKind.i64 xk, AV.int IntKind.i64 xp, AV.str xt, AV.sl 3 (stripss 0 [] xa) none, AV.sl 5 (stripss 0 [] xs) none], AV.agg [AV.int IntKind.i64 yk, AV.int IntKind.i64 yp, AV.str yt, AV.sl 3 (stripss 0 [] ya) none, AV.sl 5 (stripss 0 [] ys) none]] = [AV.agg (encN a9), AV.agg (encN b10)] ∧ ∃ (a11 : Nd), ∃ (b12 : Nd), Nd.size a11 < N ∧ Nd.fit a11 ∧ Nd.fit b12 ∧ [AV.agg [AV.int IntKind.i64 xk, AV.int IntKind.i64 xp, AV.str xt, AV.sl 3 (stripss 0 [] xa) none, AV.sl 5 (stripss 0 [] xs) none], AV.agg [AV.int IntKind.i64 yk, AV.int IntKind.i64 yp, AV.str yt, AV.sl 3 (stripss 0 [] ya) none, AV.sl 5 (stripss 0 [] ys) none]] = [AV.agg (encN a11), AV.agg (encN b12)] ∧ ifP (Nd.same a9 b10 == Nd.same a11 b12) (∃ (a13 : Nd), ∃ (b14 : Nd), Nd.size a13 < N ∧ Nd.fit a13 ∧ Nd.fit b14 ∧ [AV.agg [AV.int IntKind.i64 xk, AV.int IntKind.i64 xp, AV.str xt, AV.sl 3 (stripss 0 [] xa) none, AV.sl 5 (stripss 0 [] xs) none], AV.agg [AV.int IntKind.i64 xk, AV.int IntKind.i64 xp, AV.str xt, AV.sl 3 (stripss 0 [] xa) none, AV.sl 5 (stripss 0 [] xs) none]] = [AV.agg (encN a13), AV.agg (encN b14)] ∧ ifP (Nd.same a13 b14) (true = true ∧ AV.bool true = v) (AV.bool false = v)) (AV.bool false = v)) (AV.bool false = v)) (AV.bool false = v)) (AV.bool false = v))))) := by kernel_rfl
  exact unr_ok hT 100000 _ _ _ _ (e.mpr H)

end Go.Proofs.Ytpfbpidlglelgaa
end

section
namespace Go.Proofs.Ytpfbpidlglelgaa
open Go.Ai Go
set_option linter.unusedSimpArgs false
set_option linter.unusedVariables false

theorem hf29 : heapFn cfg 29 Try.f29 := ⟨by kernel_rfl, by kernel_rfl, by kernel_rfl, by kernel_rfl, by kernel_rfl, by kernel_rfl⟩
theorem hf28 : heapFn cfg 28 Try.f28 := ⟨by kernel_rfl, by kernel_rfl, by kernel_rfl, by kernel_rfl, by kernel_rfl, by kernel_rfl⟩
theorem pf17 : pureFn cfg 17 Try.f17 := ⟨by kernel_rfl, by kernel_rfl, by kernel_rfl, by kernel_rfl, by kernel_rfl, by kernel_rfl⟩
theorem pf8 : pureFn cfg 8 Try.f8 := ⟨by kernel_rfl, by kernel_rfl, by kernel_rfl, by kernel_rfl, by kernel_rfl, by kernel_rfl⟩
theorem pf6 : pureFn cfg 6 Try.f6 := ⟨by kernel_rfl, by kernel_rfl, by kernel_rfl, by kernel_rfl, by kernel_rfl, by kernel_rfl⟩

theorem stripAs (n : Nat) (h : Hp) (l : List Att) : stripss n h (l.map encA) = l.map encA := stripss_pure _ _ _ (pure_encAs l)
theorem stripNs (n : Nat) (h : Hp) (l : List Nd) : stripss n h (encNs l) = encNs l := stripss_pure _ _ _ (pure_encNs l)

theorem c29 : COk cfg 29 isNameC := by
  refine cok_heap hf29 fun vs h K ht => ?_
  obtain ⟨n, a, nm, rfl, rfl, hk⟩ := ht
  refine t29a (ctab_ok ctab_nil) ?_
  simp only [stripAs, stripNs]
  exact hk

theorem loop28 (hT : TabOk cfg (ctab [(29, isNameC)])) (n : Nd) (nm : List UInt8) (K : AV → Hp → Prop) : ∀ (r pre : List Att), (pre ++ r).length ≤ lim → K (.int .i64 (attrAt r nm (pre.length : Nat))) [nodeBlk n, .mem 9 [.str nm]] →
    ToEnd cfg 28 (bodyOf Try.f28) (RetIn Try.prog Try.f28 2 K) [.code [0, 1, 0, 1], .block 0, .code [1, 1]] .normal
      [(0, true, .sl 3 ((pre ++ r).map encA) none), (1, true, .fn (.func 29) [] [.ptr 1 0]), (7, true, .int .i64 ((pre ++ r).length : Nat)), (8, true, .int .i64 pre.length)] [nodeBlk n, .mem 9 [.str nm]] := by
  intro r
  induction r with
  | nil =>
    intro pre hl hk
    refine t28b hT (ifP_intro (fun hc => ?_) fun _ => ?_)
    · simp at hc
    · simp only [stripAs, stripNs]
      exact hk
  | cons x r ih =>
    intro pre hl hk
    have hlen : pre.length < lim := by simp at hl; omega
    have hin : inR (pre.length : Int) ((pre ++ x :: r).map encA).length = true := inR_of (by omega) (by simp; omega)
    refine t28b hT (ifP_intro (fun _ => ?_) fun hc => ?_)
    · refine gAnd_intro (by rw [hin]; rfl) ⟨x.name, x.value, x.pl, getE_pre _ _ _ _, n, x, nm, rfl, rfl, ifP_intro (fun hq => ?_) fun hq => ?_⟩
      · simp only [stripAs, stripNs]
        simpa [attrAt, hq, nodeBlk] using hk
      · refine gAnd_intro (by simp only [low_encAs, low_encNs, Bool.and_true]) ?_
        rw [wrap_succ hlen]
        have := ih (pre ++ [x]) (by simpa using hl) (by simpa [attrAt, hq] using hk)
        simpa [nodeBlk] using this
    · simp at hc; omega

theorem c28 : COk cfg 28 (findC 29) := by
  refine cok_heap hf28 fun vs h K ht => ?_
  obtain ⟨n, al, nm, hl, rfl, rfl, hk⟩ := ht
  have hT := ctab_ok (ctab_cons c29 ctab_nil)
  refine t28a hT ?_
  have := loop28 hT n nm K al [] hl hk
  simpa [nodeBlk] using this

theorem c17 : COk cfg 17 attrC := by
  refine cok_pure pf17 fun vs h K ht => ?_
  obtain ⟨nd, nm, hf, rfl, hk⟩ := ht
  refine ⟨_, hk, ?_⟩
  rw [encN_eq]
  rw [Nd.fit_eq] at hf
  refine t17a (ctab_ok (ctab_cons c28 ctab_nil)) ⟨nd, nd.attrs, nm, hf.2.1, rfl, rfl, ?_⟩
  rcases attrAt_spec nm nd.attrs 0 (by omega) with ⟨h1, h2⟩ | ⟨pre, x, r, h1, h2, h3⟩
  · rw [h1, h2]
    exact ifP_intro (fun _ => rfl) fun hc => by simp at hc
  · rw [h2, h3, h1]
    refine ifP_intro (fun hc => ?_) fun _ => gAnd_intro ?_ ⟨x.name, x.value, x.pl, ?_, rfl⟩
    · simp only [decide_eq_true_eq] at hc; omega
    · rw [inR_of (by omega) (by simp; omega)]; rfl
    · rw [Int.zero_add]; exact getE_pre _ _ _ _

theorem works_eval : isTrue (call cfg false 100000 8 [] []) = true := by kernel_rfl
theorem c8 : COk cfg 8 trueC := cok_true pf8 works_eval

def looksC : Con := fun vs h K => ∃ (a b : Nd) (nm : List UInt8), a.fit ∧ b.fit ∧ vs = [.agg (encN a), .agg (encN b), .str nm] ∧ K (.bool true) h
theorem c6 : COk cfg 6 looksC := by
  refine cok_pure pf6 fun vs h K ht => ?_
  obtain ⟨a, b, nm, ha, hb, rfl, hk⟩ := ht
  refine ⟨_, hk, ?_⟩
  simp only [encN_eq]
  have hT := ctab_ok (ctab_cons c7 (ctab_cons c8 (ctab_cons c17 (ctab_cons c22 (ctab_cons (c19 1000 (by omega)) (ctab_cons (c23 1000 (by omega)) (ctab_cons (c21 1000) (ctab_cons (c24 1000) ctab_nil))))))))
  refine t6a hT ?_
  simp only [stripss_encAs, stripss_encNs, ← encN_eq]
  refine ⟨a, ha, rfl, ifP_intro (fun _ => ⟨trivial, trivial⟩) fun h1 => ⟨b, hb, rfl, ifP_intro (fun _ => ⟨trivial, trivial⟩) fun h2 => ifP_intro (fun _ => ⟨trivial, trivial⟩) fun h3 => ?_⟩⟩
  have hs : a.size < 1000 := by
    have : 0 < a.left 600 := by simpa using h1
    have := Nd.left_pos this
    omega
  refine ⟨a, nm, ha, rfl, a, nm, ha, rfl, ifP_intro (fun _ => ifP_intro (fun _ => ⟨a, hs, rfl, a, hs, rfl, ifP_intro (fun _ => ⟨a, b, hs, ha, hb, rfl, a, b, hs, ha, hb, rfl, ifP_intro (fun _ => ⟨a, a, hs, ha, ha, rfl, ifP_intro (fun _ => ⟨trivial, trivial⟩) fun hc => ?_⟩) fun hc => ?_⟩) fun hc => ?_⟩) fun hc => ?_) fun hc => ?_⟩
  · rw [Nd.same_refl] at hc; cases hc
  all_goals simp at hc
end Go.Proofs.Ytpfbpidlglelgaa
end

section
namespace Go.Proofs.Ytpfbpidlglelgaa
open Go.Ai Go
set_option linter.unusedVariables false

def plainS : List TypeId := [3, 9, 22, 23, 25, 41]
theorem plainS_ok : closedT Try.prog plainS plainS = true := by kernel_rfl

theorem wt_int {n : Nat} {xs : List AV} (h : wt Try.prog n 3 xs) : ∃ z, (Lit.int .i64 z).wf = true ∧ xs = [.int .i64 z] := by
  cases n with
  | zero => exact h.elim
  | succ n => simpa only [wt, Try.underlying3] using h
theorem wt_str {n : Nat} {xs : List AV} (h : wt Try.prog n 9 xs) : ∃ s : List UInt8, s.length ≤ maxLen ∧ xs = [.str s] := by
  cases n with
  | zero => exact h.elim
  | succ n => simpa only [wt, Try.underlying9] using h

theorem wt_att {n : Nat} {xs : List AV} (h : wt Try.prog n 41 xs) : ∃ a : Att, a.fit ∧ xs = encA a := by
  cases n with
  | zero => exact h.elim
  | succ n =>
    simp only [wt, Try.underlying41] at h
    obtain ⟨yss, h, rfl⟩ := h
    match yss, h with
    | [y0, y1, y2], ⟨h0, h1, h2, _⟩ =>
      obtain ⟨s0, q0, rfl⟩ := wt_str h0
      obtain ⟨s1, q1, rfl⟩ := wt_str h1
      obtain ⟨z, _, rfl⟩ := wt_int h2
      exact ⟨⟨s0, s1, z⟩, ⟨q0, q1⟩, rfl⟩

theorem wt_atts {n : Nat} {xs : List AV} (h : wt Try.prog n 22 xs) : ∃ l : List Att, l.length ≤ lim ∧ (∀ a ∈ l, a.fit) ∧ xs = [.sl 3 (l.map encA) none] := by
  cases n with
  | zero => exact h.elim
  | succ n =>
    simp only [wt, Try.underlying22] at h
    obtain ⟨es, hl, rfl, hm⟩ := h
    have key : ∀ es : List (List AV), (∀ x ∈ es, wt Try.prog n 41 x) → ∃ l : List Att, es.length = l.length ∧ (∀ a ∈ l, a.fit) ∧ es = l.map encA := by
      intro es
      induction es with
      | nil => exact fun _ => ⟨[], rfl, by simp, rfl⟩
      | cons e es ih =>
        intro hm
        obtain ⟨a, h1, rfl⟩ := wt_att (hm e (by simp))
        obtain ⟨l, h2, h3, rfl⟩ := ih fun x hx => hm x (by simp [hx])
        exact ⟨a :: l, by simp, by simpa using ⟨h1, h3⟩, rfl⟩
    obtain ⟨l, h1, h2, rfl⟩ := key es hm
    exact ⟨l, by rw [← h1]; exact hl, h2, rfl⟩

theorem wt_parts {n : Nat} {xs : List AV} (h : wt Try.prog (n + 1) 25 xs) : ∃ y0 y1 y2 y3 y4, wt Try.prog n 3 y0 ∧ wt Try.prog n 3 y1 ∧ wt Try.prog n 9 y2 ∧ wt Try.prog n 22 y3 ∧ wt Try.prog n 23 y4 ∧ xs = y0 ++ (y1 ++ (y2 ++ (y3 ++ y4))) := by
  rw [wt, Try.underlying25] at h
  obtain ⟨yss, h, rfl⟩ := h
  match yss, h with
  | [y0, y1, y2, y3, y4], ⟨h0, h1, h2, h3, h4, _⟩ => exact ⟨y0, y1, y2, y3, y4, h0, h1, h2, h3, h4, by simp⟩

theorem wt_node : ∀ (n : Nat) {xs : List AV}, wt Try.prog n 25 xs → ∃ nd : Nd, nd.fit ∧ xs = encN nd := by
  intro n
  induction n using Nat.strongRecOn with
  | ind n ih =>
    intro xs h
    cases n with
    | zero => exact h.elim
    | succ n =>
      obtain ⟨y0, y1, y2, y3, y4, h0, h1, h2, h3, h4, rfl⟩ := wt_parts h
      obtain ⟨k, _, rfl⟩ := wt_int h0
      obtain ⟨p, _, rfl⟩ := wt_int h1
      obtain ⟨t, q2, rfl⟩ := wt_str h2
      obtain ⟨al, q3, q3', rfl⟩ := wt_atts h3
      cases n with
      | zero => exact h4.elim
      | succ n =>
        rw [wt, Try.underlying23] at h4
        obtain ⟨es, hl, rfl, hm⟩ := h4
        have key : ∀ es : List (List AV), (∀ x ∈ es, wt Try.prog n 25 x) → ∃ l : List Nd, es.length = l.length ∧ fits l ∧ es = encNs l := by
          intro es
          induction es with
          | nil => exact fun _ => ⟨[], rfl, trivial, rfl⟩
          | cons e es ih' =>
            intro hm
            obtain ⟨a, h1, rfl⟩ := ih n (by omega) (hm e (by simp))
            obtain ⟨l, h2, h3, rfl⟩ := ih' fun x hx => hm x (by simp [hx])
            exact ⟨a :: l, by simpa using h2, ⟨h1, h3⟩, rfl⟩
        obtain ⟨l, h1, h2, rfl⟩ := key es hm
        exact ⟨.mk k p t al l, ⟨q2, q3, q3', by rw [← h1]; exact hl, h2⟩, rfl⟩

theorem arg_node {n : Nat} {v : AV} (h : argOf Try.prog n 25 v) : ∃ nd : Nd, nd.fit ∧ v = .agg (encN nd) := by
  obtain ⟨xs, rfl, h⟩ := h
  obtain ⟨nd, h1, rfl⟩ := wt_node _ h
  exact ⟨nd, h1, rfl⟩
theorem arg_str {n : Nat} {v : AV} (h : argOf Try.prog n 9 v) : ∃ s : List UInt8, s.length ≤ maxLen ∧ v = .str s := by
  obtain ⟨s, h1, h2⟩ := wt_str (show wt Try.prog n 9 [v] from h)
  injection h2 with h2 _
  exact ⟨s, h1, h2⟩
theorem arg_int {n : Nat} {v : AV} (h : argOf Try.prog n 3 v) : ∃ z : Int, (Lit.int .i64 z).wf = true ∧ v = .int .i64 z := by
  obtain ⟨s, h1, h2⟩ := wt_int (show wt Try.prog n 3 [v] from h)
  injection h2 with h2 _
  exact ⟨s, h1, h2⟩
end Go.Proofs.Ytpfbpidlglelgaa
end
