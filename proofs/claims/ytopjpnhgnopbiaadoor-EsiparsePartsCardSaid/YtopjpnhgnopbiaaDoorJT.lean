/-
  Trees out of pieces: contracts of the parser's functions. No statement about the program is made here.
  Trees of nodes, in plain terms: what they are as abstract values, how many nodes, how deep, the same. No statement about the program is made here.
  Which trees are pages, in plain terms; contracts of the functions that look. No statement about the program is made here.
  Which trees are pages, in plain terms. No statement about the program is made here.
  The parser in plain terms: what a page's text is as a tree, or what is wrong and where. No statement about the program is made here.
  The parser in plain terms: what stays while tokens are taken; what tokens are. No statement about the program is made here.
  The parser in plain terms: how great its trees are. No statement about the program is made here.
  A text between two others, and a text in an element: their pieces, and what the statement says of their trees. No statement about the program is made here.
  The parser on tokens that stand in another text: step by step as on their own. No statement about the program is made here.
  The parser on tokens that stand in another text: one step, and how deep it goes. No statement about the program is made here.
  The parser on tokens that stand in another text: all steps, and the one that goes too deep. No statement about the program is made here.
  A text between two others, and a text in an element: the plain law of their trees. No statement about the program is made here.
  A text between two others, and a text in an element: the law. No statement about the program is made here.
-/
import Derived.Test.YtopjpnhgnopbiaaDoorJA
import Derived.Test.YtopjpnhgnopbiaaDoorAiSymP
import Derived.Test.YtopjpnhgnopbiaaDoorAiPrims
import Derived.Test.YtopjpnhgnopbiaaDoorAiMono
set_option linter.unusedVariables false
set_option linter.unusedSimpArgs false
set_option linter.unnecessarySimpa false
section
namespace Go.Ai.Sp
open Go.Ai Go.RowKit Go.Ai.Ex
abbrev Row := Nat × List AV
abbrev limS : Nat := 1000000000000
def hP (g : Nat) (rows : List Row) (pl e : Int) : Hp := [.grow 0 3 32, .grow 0 5 28, .mem 28 [.int .i64 0, .int .i64 0, .str [], .sl 3 [] (some 0), .sl 5 [] (some 1)], .grow 0 3 32, .dead, .stk g 28 5 4 28 5 rows, .grow 0 5 28,
  .mem 49 [.ssl 5 g 0 5 rows.length, .int .i64 pl, .int .i64 e]]
def rw' (v0 v1 v2 v3 : AV) (es : List (List AV)) : Row := (es.length, [v0, v1, v2, v3, .sl 5 es none])
def _root_.Keep.okW (rows : List Row) (r : Hp) : Prop := ∀ (n : Nat) (g : Hp), 8 + r.length ≤ n → rows.map (fun x => (x.1, strips n g x.2)) = rows ∧ r.map (stripB n g) = r
def topC : Con := fun vs h K => ∃ (g : Nat) (row : Row) (rows : List Row) (pl e : Int) (r : Hp), Keep.okW (row :: rows) r ∧ (row :: rows).length ≤ limS ∧ vs = [.ptr 7 0] ∧ h = hP g (row :: rows) pl e ++ r ∧ K (.spt 5 g 0 0) h
def fE (p x pl e : Int) : Int × Int := bif e == 0 then (p, x) else (pl, e)
def failC : Con := fun vs h K => ∃ (p x : Int) (g : Nat) (rows : List Row) (pl e : Int) (r : Hp), Keep.okW rows r ∧ vs = [.ptr 7 0, .int .i64 p, .int .i64 x] ∧ h = hP g rows pl e ++ r ∧ K (.tup []) (hP g rows (fE p x pl e).1 (fE p x pl e).2 ++ r)
def lastK (es : List (List AV)) : Int := match es.getLast? with
  | some (.int _ k :: _) => k
  | _ => 0
def kidsOk (es : List (List AV)) : Prop := es.length ≤ limS ∧ ∀ x ∈ es, ∃ k v1 v2 v3 v4, x = [AV.int .i64 k, v1, v2, v3, v4]
def lastC : Con := fun vs h K => ∃ (g : Nat) (v0 v1 v2 v3 : AV) (es : List (List AV)) (rows : List Row) (pl e : Int) (r : Hp), Keep.okW (rw' v0 v1 v2 v3 es :: rows) r ∧ (rw' v0 v1 v2 v3 es :: rows).length ≤ limS ∧ kidsOk es ∧
  vs = [.ptr 7 0] ∧ h = hP g (rw' v0 v1 v2 v3 es :: rows) pl e ++ r ∧ K (.int .i64 (lastK es)) h
def mayB (k l x : Int) : Bool := bif k == 7 then (x == 8 && l == 0) || (x == 9 && l == 8) else bif k == 10 then (x == 11 && l != 12) || (x == 12 && l == 11) else !(x == 8 || x == 9 || x == 11 || x == 12)
def mayC : Con := fun vs h K => ∃ (g : Nat) (k x : Int) (v1 v2 v3 : AV) (es : List (List AV)) (rows : List Row) (pl e : Int) (r : Hp), Keep.okW (rw' (.int .i64 k) v1 v2 v3 es :: rows) r ∧ (rw' (.int .i64 k) v1 v2 v3 es :: rows).length ≤ limS ∧ kidsOk es ∧
  vs = [.ptr 7 0, .int .i64 x] ∧ h = hP g (rw' (.int .i64 k) v1 v2 v3 es :: rows) pl e ++ r ∧ K (.bool (mayB k (lastK es) x)) h
def inNC : Con := fun vs h K => ∃ (l : List Int) (x : Int), vs = [.sl 1 (l.map fun n => [.int .i64 n]) none, .int .i64 x] ∧ l.length ≤ limS ∧ K (.bool (l.any (· == x))) h
def inNIC : Con := fun vs h K => ∃ (l : List Int) (x : Int), vs = [.sl 1 (l.map fun n => [.int .i64 n]) none, .int .i64 x] ∧ l.length ≤ limS ∧ ∀ z : Int, decide (z ≥ 0) = (l.any (· == x)) → K (.int .i64 z) h
def inC : Con := fun vs h K => ∃ (l : List (List UInt8)) (x : List UInt8), vs = [.sl 1 (l.map fun n => [.str n]) none, .str x] ∧ l.length ≤ limS ∧ K (.bool (l.any (· == x))) h
def inIC : Con := fun vs h K => ∃ (l : List (List UInt8)) (x : List UInt8), vs = [.sl 1 (l.map fun n => [.str n]) none, .str x] ∧ l.length ≤ limS ∧ ∀ z : Int, decide (z ≥ 0) = (l.any (· == x)) → K (.int .i64 z) h
structure El where
  kind : Int
  names : List (List UInt8)
  must : Nat
def elM (s : List UInt8) : El :=
  bif s == [105, 110, 99, 108, 117, 100, 101] then ⟨3, [[115, 114, 99], [97, 108, 116], [111, 110, 101, 114, 114, 111, 114]], 1⟩ else
  bif s == [105, 110, 108, 105, 110, 101] then ⟨4, [[110, 97, 109, 101], [102, 101, 116, 99, 104, 97, 98, 108, 101]], 1⟩ else
  bif s == [114, 101, 109, 111, 118, 101] then ⟨5, [], 0⟩ else
  bif s == [99, 111, 109, 109, 101, 110, 116] then ⟨6, [[116, 101, 120, 116]], 1⟩ else
  bif s == [116, 114, 121] then ⟨7, [], 0⟩ else
  bif s == [97, 116, 116, 101, 109, 112, 116] then ⟨8, [], 0⟩ else
  bif s == [101, 120, 99, 101, 112, 116] then ⟨9, [], 0⟩ else
  bif s == [99, 104, 111, 111, 115, 101] then ⟨10, [], 0⟩ else
  bif s == [119, 104, 101, 110] then ⟨11, [[116, 101, 115, 116]], 1⟩ else
  bif s == [111, 116, 104, 101, 114, 119, 105, 115, 101] then ⟨12, [], 0⟩ else ⟨13, [], 0⟩
def encE (x : El) : List AV := [.int .i64 x.kind, .sl 1 (x.names.map fun n => [.str n]) none, .int .i64 (x.must : Nat)]
def ofC : Con := fun vs h K => ∃ s : List UInt8, vs = [.str s] ∧ K (.agg (encE (elM s))) h
def valM (x y : List UInt8) : Bool :=
  bif x == [111, 110, 101, 114, 114, 111, 114] then y == [99, 111, 110, 116, 105, 110, 117, 101] else
  bif x == [102, 101, 116, 99, 104, 97, 98, 108, 101] then y == [121, 101, 115] || y == [110, 111] else
  bif x == [116, 101, 120, 116] then true else !(y == [])
def valC : Con := fun vs h K => ∃ x y : List UInt8, vs = [.str x, .str y] ∧ K (.bool (valM x y)) h
def nodeV (k a : Int) (t : List UInt8) (aa : List (List AV)) (oa : Option Nat) (ks : List (List AV)) (ow : Option Nat) : List AV := [.int .i64 k, .int .i64 a, .str t, .sl 3 aa oa, .sl 5 ks ow]
def addC (m : Nat) : Con := fun vs h K => ∃ (g : Nat) (v0 v1 v2 v3 : AV) (es : List (List AV)) (rows : List Row) (pl e : Int) (r : Hp) (nk na : Int) (nt : List UInt8) (aa : List (List AV)) (oa : Option Nat) (ks : List (List AV)) (ow : Option Nat),
  Keep.okW (rw' v0 v1 v2 v3 es :: rows) r ∧ (rw' v0 v1 v2 v3 es :: rows).length ≤ limS ∧ es.length < limS ∧ (∀ n g, 8 + m ≤ n → strips n g (nodeV nk na nt aa oa ks ow) = nodeV nk na nt aa oa ks ow) ∧ r.length = m ∧
  vs = [.ptr 7 0, .agg (nodeV nk na nt aa oa ks ow)] ∧ h = hP g (rw' v0 v1 v2 v3 es :: rows) pl e ++ r ∧ K (.tup []) (hP g (rw' v0 v1 v2 v3 (es ++ [nodeV nk na nt aa oa ks ow]) :: rows) pl e ++ r)
def attrsM (x : El) (fr : Int) (l : List Att) (s : Int × Int) : Int × Int :=
  l.foldl (fun s a => bif !(x.names.any (· == a.name)) || !valM a.name a.value then fE a.at' 12 s.1 s.2 else s) ((x.names.take x.must).foldl (fun s nm => bif !(l.any fun a => a.name == nm) then fE fr 12 s.1 s.2 else s) s)
def tkB (tk fr to : Int) (nm tx : List UInt8) (aa : List (List AV)) : List AV := [.int .i64 tk, .str nm, .sl 3 aa none, .str tx, .int .i64 fr, .int .i64 to]
def begH (t : List AV) (x : El) : Hp := [.grow 0 3 32, .mem 53 t, .mem 53 t, .grow 0 1 9, .mem 89 (encE x)]
def _root_.Keep.okR (rows : List Row) : Prop := ∀ r ∈ rows, ∀ n, 4 ≤ n → lowVs n r.2 = true
def attrsC : Con := fun vs h K => ∃ (g : Nat) (rows : List Row) (pl e : Int) (x : El) (tk fr to : Int) (nm tx : List UInt8) (l : List Att), Keep.okR rows ∧ x.must ≤ x.names.length ∧ x.names.length ≤ limS ∧ l.length ≤ limS ∧
  vs = [.ptr 7 0, .agg (encE x), .agg (tkB tk fr to nm tx (encAs l))] ∧ h = hP g rows pl e ++ begH (tkB tk fr to nm tx (encAs l)) x ∧ K (.tup []) (hP g rows (attrsM x fr l (pl, e)).1 (attrsM x fr l (pl, e)).2 ++ begH (tkB tk fr to nm tx (encAs l)) x)
def hasNC : Con := fun vs h K => ∃ (g : Nat) (rows : List Row) (pl e : Int) (b0 b1 b2 b3 b4 b5 b6 : Blk) (wd an av : List UInt8) (ap : Int), Keep.okW rows [b0, b1, b2, b3, b4, b5, b6, .mem 9 [.str wd]] ∧
  vs = [.agg [.str an, .str av, .int .i64 ap], .ptr 15 0] ∧ h = hP g rows pl e ++ [b0, b1, b2, b3, b4, b5, b6, .mem 9 [.str wd]] ∧ K (.bool (an == wd)) h
def hasIC : Con := fun vs h K => ∃ (g : Nat) (rows : List Row) (pl e : Int) (b0 b1 b2 b3 b4 b5 b6 : Blk) (wd : List UInt8) (l : List Att), Keep.okW rows [b0, b1, b2, b3, b4, b5, b6, .mem 9 [.str wd]] ∧ l.length ≤ limS ∧
  vs = [.sl 3 (encAs l) none, .fn (.func 71) [] [.ptr 15 0]] ∧ h = hP g rows pl e ++ [b0, b1, b2, b3, b4, b5, b6, .mem 9 [.str wd]] ∧ ∀ z : Int, decide (z ≥ 0) = (l.any fun a => a.name == wd) → K (.int .i64 z) h
def hasAC : Con := fun vs h K => ∃ (g : Nat) (rows : List Row) (pl e : Int) (b0 b1 b2 b3 b4 b5 b6 : Blk) (wd : List UInt8) (l : List Att), Keep.okW rows [b0, b1, b2, b3, b4, b5, b6, .mem 9 [.str wd]] ∧ l.length ≤ limS ∧
  vs = [.sl 3 (encAs l) none, .fn (.func 71) [] [.ptr 15 0]] ∧ h = hP g rows pl e ++ [b0, b1, b2, b3, b4, b5, b6, .mem 9 [.str wd]] ∧ K (.bool (l.any fun a => a.name == wd)) h
def trimM (s : List UInt8) : List UInt8 := s.dropWhile blB
def trimC : Con := fun vs h K => ∃ s : List UInt8, s.length ≤ limS ∧ vs = [.str s, .str [32, 9, 10, 13]] ∧ K (.str (trimM s)) h
def failW (g : Nat) (rows : List Row) (r : Hp) : Con := fun vs h K => ∃ (p x : Int) (pl e : Int), vs = [.ptr 7 0, .int .i64 p, .int .i64 x] ∧ h = hP g rows pl e ++ r ∧ K (.tup []) (hP g rows (fE p x pl e).1 (fE p x pl e).2 ++ r)
def failN (g : Nat) (rows : List Row) (b0 b1 b2 b3 b4 b5 b6 : Blk) : Con := fun vs h K => ∃ (p x : Int) (pl e : Int) (w : List UInt8), vs = [.ptr 7 0, .int .i64 p, .int .i64 x] ∧ h = hP g rows pl e ++ [b0, b1, b2, b3, b4, b5, b6, .mem 9 [.str w]] ∧
  K (.tup []) (hP g rows (fE p x pl e).1 (fE p x pl e).2 ++ [b0, b1, b2, b3, b4, b5, b6, .mem 9 [.str w]])
def failA (g : Nat) (rows : List Row) (b0 b1 b2 b3 b4 b5 b6 : Blk) : Con := fun vs h K => ∃ (p x : Int) (pl e : Int) (w v : List UInt8) (q : Int), vs = [.ptr 7 0, .int .i64 p, .int .i64 x] ∧ h = hP g rows pl e ++ [b0, b1, b2, b3, b4, b5, b6, .mem 32 [.str w, .str v, .int .i64 q]] ∧
  K (.tup []) (hP g rows (fE p x pl e).1 (fE p x pl e).2 ++ [b0, b1, b2, b3, b4, b5, b6, .mem 32 [.str w, .str v, .int .i64 q]])
def ofW (s : List UInt8) : Con := fun vs h K => vs = [.str s] ∧ K (.agg (encE (elM s))) h
def begX (b0 b1 : Blk) (t : List AV) (x : El) : Hp := [b0, b1, .mem 53 t, .grow 0 1 9, .mem 89 (encE x)]
def attrsV (g : Nat) (rows : List Row) (x : El) (tk fr to : Int) (nm tx : List UInt8) (l : List Att) : Con := fun vs h K => ∃ (pl e : Int), vs = [.ptr 7 0, .agg (encE x), .agg (tkB tk fr to nm tx (encAs l))] ∧
  h = hP g rows pl e ++ begH (tkB tk fr to nm tx (encAs l)) x ∧ K (.tup []) (hP g rows (attrsM x fr l (pl, e)).1 (attrsM x fr l (pl, e)).2 ++ begH (tkB tk fr to nm tx (encAs l)) x)
end Go.Ai.Sp
end
section
namespace Go.Ai
open Go.RowKit
structure Att where
  name : List UInt8
  value : List UInt8
  pl : Int
inductive Nd where
  | mk (kind pl : Int) (text : List UInt8) (attrs : List Att) (kids : List Nd)
  deriving Inhabited
def Nd.kind : Nd → Int | .mk k _ _ _ _ => k
def Nd.pl : Nd → Int | .mk _ p _ _ _ => p
def Nd.text : Nd → List UInt8 | .mk _ _ t _ _ => t
def Nd.attrs : Nd → List Att | .mk _ _ _ a _ => a
def Nd.kids : Nd → List Nd | .mk _ _ _ _ l => l
def encA (a : Att) : List AV := [.str a.name, .str a.value, .int .i64 a.pl]
mutual
def encN : Nd → List AV
  | .mk k p t al ks => [.int .i64 k, .int .i64 p, .str t, .sl 3 (al.map encA) none, .sl 5 (encNs ks) none]
def encNs : List Nd → List (List AV)
  | [] => []
  | n :: r => encN n :: encNs r
end
theorem encNs_map : ∀ l : List Nd, encNs l = l.map encN
  | [] => rfl
  | n :: r => by rw [encNs, encNs_map r]; rfl
mutual
def Nd.size : Nd → Nat
  | .mk _ _ _ _ ks => 1 + sizes ks
def sizes : List Nd → Nat
  | [] => 0
  | n :: r => n.size + sizes r
end
mutual
def Nd.depth : Nd → Nat
  | .mk _ _ _ _ ks => depths ks
def depths : List Nd → Nat
  | [] => 0
  | n :: r => max (n.depth + if n.kind = 2 then 0 else 1) (depths r)
end
mutual
theorem pure_encN : ∀ n : Nd, pureV.pureVs (encN n) = true
  | .mk k p t al ks => by
    simp only [encN, pureV.pureVs, pureV, Option.isNone_none, Bool.true_and, Bool.and_true, Bool.and_eq_true]; refine ⟨?_, pure_encNs ks⟩
    induction al with
    | nil => rfl
    | cons a r ih => simp only [List.map_cons, pureV.pureVss, encA, pureV.pureVs, pureV, ih, Bool.true_and]
theorem pure_encNs : ∀ l : List Nd, pureV.pureVss (encNs l) = true
  | [] => rfl
  | n :: r => by simp only [encNs, pureV.pureVss, pure_encN n, pure_encNs r, Bool.true_and]
end
theorem pure_encAs (l : List Att) : pureV.pureVss (l.map encA) = true := by
  induction l with
  | nil => rfl
  | cons a r ih => simp only [List.map_cons, pureV.pureVss, encA, pureV.pureVs, pureV, ih, Bool.true_and]
mutual
theorem low_pure (n : Nat) : ∀ v, pureV v = true → lowV n v = true
  | .top, _ => rfl
  | .bool _, _ => rfl
  | .int _ _, _ => rfl
  | .str _, _ => rfl
  | .nilp, _ => rfl
  | .ptr _ _, hp => by simp [pureV] at hp
  | .ro cs, hp => by rw [lowV]; exact lows_pure n cs (by simpa [pureV] using hp)
  | .sl sz es own, hp => by
    simp only [pureV, Bool.and_eq_true] at hp
    cases own with
    | none => simp only [lowV, lowss_pure n es hp.2, Bool.and_true]
    | some _ => simp at hp
  | .osl _ _ _ _, hp => by simp [pureV] at hp
  | .mpv _ vs, hp => by first | (simp [pureV] at hp; done) | (rw [lowV]; exact lowss_pure n vs (by simpa [pureV] using hp))
  | .fn f a c, hp => by
    simp only [pureV, Bool.and_eq_true] at hp; rw [lowV, lows_pure n a hp.1, lows_pure n c hp.2]; rfl
  | .nilf, _ => rfl
  | .dfr cs, hp => by first | (simp [pureV] at hp; done) | (rw [lowV]; exact lows_pure n cs (by simpa [pureV] using hp))
  | .iface t v, hp => by rw [lowV]; exact low_pure n v (by simpa [pureV] using hp)
  | .nili, _ => rfl
  | .agg cs, hp => by rw [lowV]; exact lows_pure n cs (by simpa [pureV] using hp)
  | .tup cs, hp => by rw [lowV]; exact lows_pure n cs (by simpa [pureV] using hp)
theorem lows_pure (n : Nat) : ∀ xs, pureV.pureVs xs = true → lowVs n xs = true
  | [], _ => rfl
  | x :: xs, hp => by
    simp only [pureV.pureVs, Bool.and_eq_true] at hp; rw [lowVs, low_pure n x hp.1, lows_pure n xs hp.2]; rfl
theorem lowss_pure (n : Nat) : ∀ xs, pureV.pureVss xs = true → lowVss n xs = true
  | [], _ => rfl
  | x :: xs, hp => by
    simp only [pureV.pureVss, Bool.and_eq_true] at hp; rw [lowVss, lows_pure n x hp.1, lowss_pure n xs hp.2]; rfl
end
theorem getE_map {α : Type} (f : α → List AV) (l : List α) {i : Nat} (h : i < l.length) : getE (l.map f) (i : Int) = f l[i] := by
  unfold getE; simp [h]
def depthC (N : Nat) : Con := fun vs h K => ∃ nd : Nd, nd.size < N ∧ vs = [.agg (encN nd)] ∧ K (.int .i64 nd.depth) h
mutual
theorem Nd.depth_le : ∀ n : Nd, n.depth < n.size
  | .mk _ _ _ _ ks => by
    simp only [Nd.depth, Nd.size]; have := depths_le ks; omega
theorem depths_le : ∀ l : List Nd, depths l ≤ sizes l
  | [] => Nat.le_refl _
  | n :: r => by
    simp only [depths, sizes]; have h1 := n.depth_le; have h2 := depths_le r
    split <;> omega
end
theorem depths_text {n : Nd} (h : n.kind = 2) (r : List Nd) : depths (n :: r) = max n.depth (depths r) := by simp only [depths, h, if_true, Nat.add_zero]
theorem depths_other {n : Nd} (h : ¬n.kind = 2) (r : List Nd) : depths (n :: r) = max (n.depth + 1) (depths r) := by simp only [depths, h, if_false]
theorem sizes_append : ∀ a b : List Nd, sizes (a ++ b) = sizes a + sizes b
  | [], b => by simp [sizes]
  | n :: r, b => by simp only [List.cons_append, sizes, sizes_append r b]; omega
theorem sizes_mem {l : List Nd} {n : Nd} (h : n ∈ l) : n.size ≤ sizes l := by
  induction l with
  | nil => cases h
  | cons m r ih =>
    simp only [sizes]
    rcases List.mem_cons.1 h with rfl | h
    · omega
    · have := ih h; omega
theorem sizes_len : ∀ l : List Nd, l.length ≤ sizes l
  | [] => Nat.le_refl _
  | n :: r => by
    simp only [List.length_cons, sizes]; have h1 := n.depth_le; have h2 := sizes_len r; omega
theorem getE_pre {α : Type} (f : α → List AV) (pre : List α) (x : α) (r : List α) : getE ((pre ++ x :: r).map f) (pre.length : Int) = f x := by
  unfold getE; simp
theorem getE_encNs (pre : List Nd) (x : Nd) (r : List Nd) : getE (encNs (pre ++ x :: r)) (pre.length : Int) = encN x := by
  rw [encNs_map]; exact getE_pre _ _ _ _
theorem encNs_length (l : List Nd) : (encNs l).length = l.length := by rw [encNs_map]; simp
theorem stripss_encAs (l : List Att) : stripss 0 [] (l.map encA) = l.map encA := stripss_pure _ _ _ (pure_encAs l)
theorem stripss_encNs (l : List Nd) : stripss 0 [] (encNs l) = encNs l := stripss_pure _ _ _ (pure_encNs l)
theorem low_encAs (n : Nat) (l : List Att) : lowVss n (l.map encA) = true := lowss_pure n _ (pure_encAs l)
theorem low_encNs (n : Nat) (l : List Nd) : lowVss n (encNs l) = true := lowss_pure n _ (pure_encNs l)
def lim : Nat := 9223372036854775807
def Att.fit (a : Att) : Prop := a.name.length ≤ lim ∧ a.value.length ≤ lim
mutual
def Nd.fit : Nd → Prop
  | .mk _ _ t al ks => t.length ≤ lim ∧ al.length ≤ lim ∧ (∀ a ∈ al, a.fit) ∧ ks.length ≤ lim ∧ fits ks
def fits : List Nd → Prop
  | [] => True
  | n :: r => n.fit ∧ fits r
end
def alike (a b : Att) : Bool := a.name == b.name && a.value == b.value
def alikes : List Att → List Att → Bool
  | [], [] => true
  | a :: r, b :: s => alike a b && alikes r s
  | _, _ => false
mutual
def Nd.same : Nd → Nd → Bool
  | .mk k _ t al ks, n => k == n.kind && t == n.text && alikes al n.attrs && sames ks n.kids
def sames : List Nd → List Nd → Bool
  | [], [] => true
  | a :: r, b :: s => a.same b && sames r s
  | _, _ => false
end
def sameC (N : Nat) : Con := fun vs h K => ∃ a b : Nd, a.size < N ∧ a.fit ∧ b.fit ∧ vs = [.agg (encN a), .agg (encN b)] ∧ K (.bool (a.same b)) h
def samesC (k N : Nat) : Con := fun vs h K => ∃ al bl : List Nd, sizes al < N ∧ fits al ∧ fits bl ∧ al.length ≤ lim ∧ bl.length ≤ lim ∧ vs = [.sl 5 (encNs al) none, .sl 5 (encNs bl) none, .fn (.func k) [] []] ∧ K (.bool (sames al bl)) h
def alikeC : Con := fun vs h K => ∃ a b : Att, vs = [.agg (encA a), .agg (encA b)] ∧ K (.bool (alike a b)) h
def alikesC (k : Nat) : Con := fun vs h K => ∃ al bl : List Att, al.length ≤ lim ∧ bl.length ≤ lim ∧ vs = [.sl 3 (al.map encA) none, .sl 3 (bl.map encA) none, .fn (.func k) [] []] ∧ K (.bool (alikes al bl)) h
theorem encN_eq (n : Nd) : encN n = [.int .i64 n.kind, .int .i64 n.pl, .str n.text, .sl 3 (n.attrs.map encA) none, .sl 5 (encNs n.kids) none] := by
  obtain ⟨k, p, t, al, ks⟩ := n; rfl
theorem Nd.size_eq (n : Nd) : n.size = 1 + sizes n.kids := by
  obtain ⟨k, p, t, al, ks⟩ := n; rfl
theorem Nd.fit_eq (n : Nd) : n.fit = (n.text.length ≤ lim ∧ n.attrs.length ≤ lim ∧ (∀ a ∈ n.attrs, a.fit) ∧ n.kids.length ≤ lim ∧ fits n.kids) := by
  obtain ⟨k, p, t, al, ks⟩ := n; rfl
theorem Nd.same_eq (a b : Nd) : a.same b = (a.kind == b.kind && a.text == b.text && alikes a.attrs b.attrs && sames a.kids b.kids) := by
  obtain ⟨k, p, t, al, ks⟩ := a; rfl
theorem Nd.depth_eq (n : Nd) : n.depth = depths n.kids := by
  obtain ⟨k, p, t, al, ks⟩ := n; rfl
end Go.Ai
end
section
namespace Go.Ai
open Go.RowKit
def encT (l : List (List UInt8)) : List (List AV) := l.map fun x => [.str x]
inductive May where
  | full
  | one (l : List (List UInt8))
  | any
structure Rul where
  name : List UInt8
  must : Bool
  may : May
def May.ok : May → List UInt8 → Bool
  | .full, v => !(v == [])
  | .one l, v => l.any fun x => v == x
  | .any, _ => true
def May.enc : May → AV
  | .full => .fn (.func 39) [] []
  | .one l => .fn (.func 40) [.sl 1 (encT l) none] []
  | .any => .fn (.func 41) [] []
end Go.Ai
end
section
namespace Go.Ai
open Go.RowKit
end Go.Ai
end
section
namespace Go.Ai.Sp
open Go.Ai Go.RowKit
def toA (a : Ex.Att) : Go.Ai.Att := ⟨a.name, a.value, (a.at' : Nat)⟩
def nd0 : Nd := .mk 0 0 [] [] []
def addK (n k : Nd) : Nd := .mk n.kind n.pl n.text n.attrs (n.kids ++ [k])
def rowO (o : Option Nat) (n : Nd) : Row := rw' (.int .i64 n.kind) (.int .i64 n.pl) (.str n.text) (.sl 3 (n.attrs.map Go.Ai.encA) o) (encNs n.kids)
def ownP : List Nd → Option Nat
  | [] => some 3
  | _ => none
def rowsP : List Nd → List Row
  | [] => []
  | n :: r => rowO (ownP r) n :: rowsP r
def lastN (l : List Nd) : Int := match l.getLast? with
  | some n => n.kind
  | none => 0
structure Ps where
  rows : List Nd
  pl : Int
  e : Int
def failP (p x : Int) (s : Ps) : Ps := ⟨s.rows, (fE p x s.pl s.e).1, (fE p x s.pl s.e).2⟩
def textP (t : Ex.Tok) (s : Ps) : Ps := match s.rows with
  | [] => s
  | n :: r => bif n.kind == 7 || n.kind == 10 then (bif (trimM t.text).isEmpty then s else failP ((t.to : Int) - (trimM t.text).length) 13 s) else ⟨addK n (.mk 2 t.fr t.text [] []) :: r, s.pl, s.e⟩
def rawP (t : Ex.Tok) (s : Ps) : Ps := match s.rows with
  | [] => s
  | n :: r => ⟨.mk n.kind n.pl t.text n.attrs n.kids :: r, s.pl, s.e⟩
def emptyB (x : El) : Bool := x.kind == 3 || x.kind == 6
def begFail (x : El) (t : Ex.Tok) (n : Nd) (r : List Nd) (s : Ps) : Ps :=
  let s1 := bif (emptyB x != (t.kind == 3)) || !mayB n.kind (lastN n.kids) x.kind then failP t.fr 13 s else s
  let s2 := bif decide (16 < r.length + 1) then failP t.fr 3 s1 else s1
  ⟨s2.rows, (attrsM x t.fr t.attrs (s2.pl, s2.e)).1, (attrsM x t.fr t.attrs (s2.pl, s2.e)).2⟩
def begP (t : Ex.Tok) (s : Ps) : Ps := match s.rows with
  | [] => s
  | n :: r =>
    let x := elM t.name
    let s2 := begFail x t n r s
    bif emptyB x then ⟨addK n (.mk x.kind t.fr [] (t.attrs.map toA) []) :: r, s2.pl, s2.e⟩ else ⟨.mk x.kind t.fr [] (t.attrs.map toA) [] :: n :: r, s2.pl, s2.e⟩
def hideP (t : Ex.Tok) (s : Ps) : Ps := match s.rows with
  | [] => s
  | n :: r =>
    let s1 := bif !mayB n.kind (lastN n.kids) 14 then failP t.fr 13 s else s
    let s2 := bif decide (16 < r.length + 1) then failP t.fr 3 s1 else s1
    ⟨.mk 14 t.fr [] [] [] :: n :: r, s2.pl, s2.e⟩
def endK (t : Ex.Tok) : Int := bif t.kind == 4 then (elM t.name).kind else 14
def endBad (t : Ex.Tok) (n : Nd) : Bool := !(n.kind == endK t) || ((endK t == 7 && !(lastN n.kids == 9)) || (endK t == 10 && lastN n.kids == 0))
def endP (t : Ex.Tok) (s : Ps) : Ps := match s.rows with
  | [] => s
  | n :: r => bif endBad t n then failP t.fr 13 s else match r with
    | [] => s
    | m :: q => ⟨addK m n :: q, s.pl, s.e⟩
def stepP (t : Ex.Tok) (s : Ps) : Ps :=
  bif t.kind == 1 then textP t s else bif t.kind == 7 then rawP t s else bif t.kind == 2 || t.kind == 3 then begP t s else bif t.kind == 5 then hideP t s else endP t s
def parseL : List Ex.Tok → Ps → Ps
  | [], s => s
  | t :: l, s => bif (stepP t s).e == 0 then parseL l (stepP t s) else stepP t s
def page0 : Ps := ⟨[.mk 1 0 [] [] []], 0, 0⟩
def doneT (len : Int) (s : Ps) : Except (Int × Int) Nd :=
  bif s.e == 0 then (match s.rows with
    | [n] => .ok n
    | _ => .error (len, 14)) else .error (s.pl, s.e)
def parseT (len : Int) (l : List Ex.Tok) : Except (Int × Int) Nd := doneT len (parseL l page0)
def parseM (s : List UInt8) : Except (Int × Int) Nd :=
  if 65536 < s.length then .error (65536, 3) else
  match Ex.lexM s with
  | .error (p, e) => .error ((p : Nat), e)
  | .ok l => parseT s.length l
end Go.Ai.Sp
namespace Go.Ai.Sp
def tokB (t : Ex.Tok) : Prop := t.text.length ≤ limS ∧ t.to ≤ limS ∧ t.fr ≤ limS ∧ t.attrs.length ≤ limS ∧ t.to ≥ t.text.length
def smallR (l : List Nd) : Prop := l.length < limS ∧ ∀ n ∈ l, n.kids.length < limS
def tokH (t : Ex.Tok) : Hp := [.grow 0 3 32, .mem 53 (Ex.encT t)]
def stepC (M : Ex.Tok → Ps → Ps) (pre : Ex.Tok → Ps → Prop) : Con := fun vs h K => ∃ (g : Nat) (s : Ps) (t : Ex.Tok), s.rows ≠ [] ∧ smallR s.rows ∧ tokB t ∧ pre t s ∧ vs = [.ptr 7 0, .agg (Ex.encT t)] ∧ h = hP g (rowsP s.rows) s.pl s.e ++ tokH t ∧
  ∀ g' : Nat, K (.tup []) (hP g' (rowsP (M t s).rows) (M t s).pl (M t s).e ++ tokH t)
def stepsV : AV := .mpv [1, 7, 2, 3, 5, 4, 6] [[.fn (.func 26) [] []], [.fn (.func 27) [] []], [.fn (.func 28) [] []], [.fn (.func 28) [] []], [.fn (.func 29) [] []], [.fn (.func 30) [] []], [.fn (.func 30) [] []]]
def stepsC : Con := fun vs h K => vs.isEmpty = true ∧ K stepsV h
def noPre (_ : Ex.Tok) (_ : Ps) : Prop := True
def onePage (s : Ps) : Prop := ∀ n, s.rows = [n] → n.kind = 1
def onePre (_ : Ex.Tok) (s : Ps) : Prop := onePage s
def parseC : Con := fun vs h K => ∃ s : List UInt8, vs = [.str s] ∧ (∀ n, parseM s = .ok n → K (.tup [.agg (encN n), .int .i64 0, .int .i64 0]) h) ∧
  (∀ p e, parseM s = .error (p, e) → ∀ z1 z2 : Nat, (z1 = 3 ∧ z2 = 5) ∨ (z1 = 0 ∧ z2 = 0) → K (.tup [.agg [.int .i64 0, .int .i64 0, .str [], .sl z1 [] none, .sl z2 [] none], .int .i64 p, .int .i64 e]) h)
mutual
def kindsN : Nd → List UInt8
  | .mk k _ _ _ ks => bif ks.isEmpty then [UInt8.ofNat (97 + k.tmod 26).toNat] else [UInt8.ofNat (97 + k.tmod 26).toNat, 40] ++ kindsNs ks ++ [41]
def kindsNs : List Nd → List UInt8
  | [] => []
  | n :: r => kindsN n ++ kindsNs r
end
def kindsC (N : Nat) : Con := fun vs h K => ∃ nd : Nd, nd.size < N ∧ vs = [.agg (encN nd)] ∧ K (.str (kindsN nd)) h
def parseV : Except (Int × Int) Nd → Nd × Int × Int
  | .ok n => (n, 0, 0)
  | .error (p, e) => (nd0, p, e)
def parseN (s : List UInt8) : Nd := (parseV (parseM s)).1
def parseA (s : List UInt8) : Int := (parseV (parseM s)).2.1
def parseE (s : List UInt8) : Int := (parseV (parseM s)).2.2
def parse3C : Con := fun vs h K => ∃ s : List UInt8, vs = [.str s] ∧
  K (.tup [.agg [.int .i64 (parseN s).kind, .int .i64 (parseN s).pl, .str (parseN s).text, .sl 3 ((parseN s).attrs.map Go.Ai.encA) none, .sl 5 (encNs (parseN s).kids) none], .int .i64 (parseA s), .int .i64 (parseE s)]) h
end Go.Ai.Sp
end
section
namespace Go.Ai.Sp
open Go.Ai Go.RowKit
def Bot : List Nd → Prop
  | [] => False
  | [n] => n.kind = 1
  | _ :: r => Bot r
theorem Bot.ne {l : List Nd} (h : Bot l) : l ≠ [] := by
  rintro rfl
  exact h
theorem Bot.push {l : List Nd} (h : Bot l) (n : Nd) : Bot (n :: l) := by
  cases l with
  | nil => exact h.elim
  | cons => exact h
theorem Bot.same {n m : Nd} {l : List Nd} (h : Bot (n :: l)) (e : m.kind = n.kind) : Bot (m :: l) := by
  cases l with
  | nil => exact e.trans h
  | cons => exact h
theorem Bot.pop {n m : Nd} {l : List Nd} (h : Bot (n :: m :: l)) : Bot (m :: l) := h
structure Inv (i : Nat) (l : List Nd) : Prop where
  bot : Bot l
  len : l.length ≤ i + 1
  kids : ∀ n ∈ l, n.kids.length ≤ i
theorem kind_addK (n k : Nd) : (addK n k).kind = n.kind := rfl
theorem kids_addK (n k : Nd) : (addK n k).kids = n.kids ++ [k] := rfl
theorem Inv.up {i : Nat} {l : List Nd} (h : Inv i l) : Inv (i + 1) l := ⟨h.bot, by have := h.len; omega, fun n hn => by have := h.kids n hn; omega⟩
theorem Inv.add {i : Nat} {n : Nd} {l : List Nd} (h : Inv i (n :: l)) (k : Nd) : Inv (i + 1) (addK n k :: l) := by
  refine ⟨h.bot.same (kind_addK n k), by have := h.len; simp only [List.length_cons] at this ⊢; omega, fun m hm => ?_⟩
  rcases List.mem_cons.1 hm with rfl | hm
  · have := h.kids n (by simp)
    rw [kids_addK, List.length_append]; simp only [List.length_cons, List.length_nil]; omega
  · have := h.kids m (List.mem_cons_of_mem _ hm); omega
theorem Inv.push {i : Nat} {l : List Nd} (h : Inv i l) {n : Nd} (hn : n.kids = []) : Inv (i + 1) (n :: l) := by
  refine ⟨h.bot.push n, by have := h.len; simp only [List.length_cons]; omega, fun m hm => ?_⟩
  rcases List.mem_cons.1 hm with rfl | hm
  · rw [hn]; simp
  · have := h.kids m hm; omega
theorem Inv.same {i : Nat} {n m : Nd} {l : List Nd} (h : Inv i (n :: l)) (e : m.kind = n.kind) (e2 : m.kids = n.kids) : Inv (i + 1) (m :: l) := by
  refine ⟨h.bot.same e, by have := h.len; simp only [List.length_cons] at this ⊢; omega, fun x hx => ?_⟩
  rcases List.mem_cons.1 hx with rfl | hx
  · rw [e2]; have := h.kids n (by simp); omega
  · have := h.kids x (List.mem_cons_of_mem _ hx); omega
theorem Inv.pop {i : Nat} {n m : Nd} {l : List Nd} (h : Inv i (n :: m :: l)) : Inv i (m :: l) :=
  ⟨h.bot.pop, by have := h.len; simp only [List.length_cons] at this ⊢; omega, fun x hx => h.kids x (List.mem_cons_of_mem _ hx)⟩
theorem inv_step {i : Nat} {s : Ps} (h : Inv i s.rows) (t : Ex.Tok) : Inv (i + 1) (stepP t s).rows := by
  obtain ⟨rows, pl, e⟩ := s
  cases rows with
  | nil => exact (h.bot).elim
  | cons n r =>
    unfold stepP
    cases t.kind == 1 with
    | true =>
      simp only [cond_true]; unfold textP; simp only
      cases n.kind == 7 || n.kind == 10 with
      | true => simp only [cond_true]; cases (trimM t.text).isEmpty <;> exact h.up
      | false => simp only [cond_false]; exact h.add _
    | false =>
      simp only [cond_false]
      cases t.kind == 7 with
      | true => simp only [cond_true]; exact h.same (m := .mk n.kind n.pl t.text n.attrs n.kids) rfl rfl
      | false =>
        simp only [cond_false]
        cases t.kind == 2 || t.kind == 3 with
        | true =>
          simp only [cond_true]; unfold begP; simp only
          cases emptyB (elM t.name) with
          | true => simp only [cond_true]; exact h.add _
          | false => simp only [cond_false]; exact h.push rfl
        | false =>
          simp only [cond_false]
          cases t.kind == 5 with
          | true => simp only [cond_true]; exact h.push (n := .mk 14 t.fr [] [] []) rfl
          | false =>
            simp only [cond_false]; unfold endP; simp only
            cases endBad t n with
            | true => simp only [cond_true]; exact h.up
            | false =>
              simp only [cond_false]
              cases r with
              | nil => exact h.up
              | cons m q => exact h.pop.add _
theorem inv0 : Inv 0 page0.rows := ⟨rfl, by decide, fun n hn => by
  rw [List.mem_singleton.1 hn]; exact Nat.le_refl 0⟩
theorem vg_kind {hid : Bool} {l : List Ex.Tok} (h : Ex.VG hid l) : ∀ t ∈ l, t.kind = 1 ∨ t.kind = 2 ∨ t.kind = 3 ∨ t.kind = 4 ∨ t.kind = 5 ∨ t.kind = 6 ∨ t.kind = 7 := by
  induction h with
  | nil => intro t ht; cases ht
  | text k1 _ _ _ _ _ _ ih =>
    intro t ht
    rcases List.mem_cons.1 ht with rfl | ht
    · exact .inl k1
    · exact ih t ht
  | tag k1 _ _ _ ih =>
    intro t ht
    rcases List.mem_cons.1 ht with rfl | ht
    · rcases k1 with k | k
      · exact .inr (.inr (.inl k))
      · exact .inr (.inl k.1)
    · exact ih t ht
  | own k1 _ _ a1 _ _ c1 _ _ _ _ ih =>
    intro t ht
    rcases List.mem_cons.1 ht with rfl | ht
    · exact .inr (.inl k1)
    · rcases List.mem_cons.1 ht with rfl | ht
      · exact .inr (.inr (.inr (.inr (.inr (.inr a1)))))
      · exact ih t ht
  | close k1 _ _ _ ih =>
    intro t ht
    rcases List.mem_cons.1 ht with rfl | ht
    · exact .inr (.inr (.inr (.inl k1)))
    · exact ih t ht
  | hide k1 _ _ _ ih =>
    intro t ht
    rcases List.mem_cons.1 ht with rfl | ht
    · exact .inr (.inr (.inr (.inr (.inl k1))))
    · exact ih t ht
  | shown k1 _ _ _ _ ih =>
    intro t ht
    rcases List.mem_cons.1 ht with rfl | ht
    · exact .inr (.inr (.inr (.inr (.inr (.inl k1)))))
    · exact ih t ht
theorem wg_mem {s : List UInt8} : ∀ (r : List Ex.Tok) (a : Nat) (prev : Option Ex.Tok) (hid : Bool), Ex.WG s a prev hid r → ∀ t ∈ r, t.fr ≤ t.to ∧ t.to ≤ s.length ∧ t.text.length ≤ t.to
  | [], _, _, _, _, t, ht => by cases ht
  | u :: r, a, prev, hid, h, t, ht => by
    unfold Ex.WG at h; obtain ⟨h1, h2, h3, h4, _, _, _, _, _, _, h5⟩ := h
    rcases List.mem_cons.1 ht with rfl | ht
    · refine ⟨by omega, h3, ?_⟩
      rw [← h4]; unfold Ex.cut; simp only [List.length_take, List.length_drop]; omega
    · exact wg_mem r _ _ _ h5 t ht
theorem lex_tok {s : List UInt8} {l : List Ex.Tok} (hs : s.length ≤ 65536) (h : Ex.lexM s = .ok l) : l.length ≤ 131074 ∧ ∀ t ∈ l, tokB t ∧ (t.kind = 1 ∨ t.kind = 2 ∨ t.kind = 3 ∨ t.kind = 4 ∨ t.kind = 5 ∨ t.kind = 6 ∨ t.kind = 7) := by
  have hw := Ex.lexM_whole h
  refine ⟨?_, fun t ht => ⟨?_, vg_kind (Ex.lexM_good h) t ht⟩⟩
  · rcases Ex.WG_len l 0 none false hw (Nat.zero_le _) with h | ⟨_, h⟩ <;> omega
  · obtain ⟨h1, h2, h3⟩ := wg_mem l 0 none false hw t ht; have hf := Ex.lexM_fit h t ht; have hc := Ex.fits_count hf; have := hf.1; unfold tokB limS
    exact ⟨by omega, by omega, by omega, by omega, h3⟩
end Go.Ai.Sp
end
section
namespace Go.Ai.Sp
open Go.Ai Go.RowKit
mutual
def smN (M : Nat) : Nd → Prop
  | .mk _ _ t al ks => t.length ≤ M ∧ al.length ≤ M ∧ (∀ a ∈ al, a.name.length ≤ M ∧ a.value.length ≤ M) ∧ ks.length ≤ M ∧ smNs M ks
def smNs (M : Nat) : List Nd → Prop
  | [] => True
  | n :: r => smN M n ∧ smNs M r
end
theorem smNs_app {M : Nat} : ∀ {a b : List Nd}, smNs M (a ++ b) ↔ smNs M a ∧ smNs M b
  | [], b => by simp [smNs]
  | n :: r, b => by simp only [List.cons_append, smNs, smNs_app (a := r), and_assoc]
theorem smN_eq {M : Nat} (n : Nd) : smN M n = (n.text.length ≤ M ∧ n.attrs.length ≤ M ∧ (∀ a ∈ n.attrs, a.name.length ≤ M ∧ a.value.length ≤ M) ∧ n.kids.length ≤ M ∧ smNs M n.kids) := by
  obtain ⟨k, p, t, al, ks⟩ := n; rfl
mutual
theorem smN_fit {M : Nat} (hM : M ≤ lim) : ∀ n : Nd, smN M n → n.fit
  | .mk _ _ t al ks, ⟨h1, h2, h3, h4, h5⟩ => ⟨by omega, by omega, fun a ha => by have := h3 a ha; exact ⟨by omega, by omega⟩, by omega, smNs_fits hM ks h5⟩
theorem smNs_fits {M : Nat} (hM : M ≤ lim) : ∀ l : List Nd, smNs M l → fits l
  | [], _ => trivial
  | n :: r, ⟨h1, h2⟩ => ⟨smN_fit hM n h1, smNs_fits hM r h2⟩
end
def tokM (M : Nat) (t : Ex.Tok) : Prop := t.text.length ≤ M ∧ t.attrs.length ≤ M ∧ ∀ a ∈ t.attrs, a.name.length ≤ M ∧ a.value.length ≤ M
theorem attr_len {l : List Ex.Att} {a : Ex.Att} (h : a ∈ l) : a.name.length ≤ (Ex.attrsS l).length ∧ a.value.length ≤ (Ex.attrsS l).length := by
  induction l with
  | nil => cases h
  | cons b l ih =>
    simp only [Ex.attrsS, List.length_cons, List.length_append]
    rcases List.mem_cons.1 h with rfl | h
    · constructor <;> omega
    · have := ih h
      constructor <;> omega
theorem tok_M {s : List UInt8} {l : List Ex.Tok} (h : Ex.lexM s = .ok l) : l.length ≤ 2 * s.length ∧ ∀ t ∈ l, tokM (2 * s.length + 1) t := by
  have hw := Ex.lexM_whole h
  refine ⟨?_, fun t ht => ?_⟩
  · rcases Ex.WG_len l 0 none false hw (Nat.zero_le _) with h | ⟨⟨p, h, _⟩, _⟩
    · omega
    · cases h
  · obtain ⟨h1, h2, h3⟩ := wg_mem l 0 none false hw t ht; have hf := Ex.lexM_fit h t ht; have hc := Ex.fits_count hf; have := hf.1
    refine ⟨by omega, by omega, fun a ha => ?_⟩
    have hal := attr_len ha
    have hwr : (Ex.attrsS t.attrs).length ≤ (Ex.written t).length := by
      rcases hf.2 with h | h | h
      · rw [h] at ha; cases ha
      · unfold Ex.written
        rw [if_neg (by omega), if_neg (by omega), if_pos h]
        simp only [List.length_append]; omega
      · unfold Ex.written
        rw [if_neg (by omega), if_neg (by omega), if_neg (by omega), if_pos h]
        simp only [List.length_append]; omega
    omega
structure Sz (M i : Nat) (l : List Nd) : Prop where
  sm : smNs M l
  kids : ∀ n ∈ l, n.kids.length ≤ i
  size : sizes l ≤ i + 1
theorem Sz.up {M i : Nat} {l : List Nd} (h : Sz M i l) : Sz M (i + 1) l := ⟨h.sm, fun n hn => by have := h.kids n hn; omega, by have := h.size; omega⟩
theorem size_addK (n k : Nd) : (addK n k).size = n.size + k.size := by
  obtain ⟨a, b, c, d, e⟩ := n; simp only [addK, Nd.size, Nd.kids, sizes_append, sizes]; omega
theorem Sz.add {M i : Nat} {n : Nd} {l : List Nd} (h : Sz M i (n :: l)) {k : Nd} (hk : smN M k) (hs : k.size ≤ 1) (hi : i + 1 ≤ M) : Sz M (i + 1) (addK n k :: l) := by
  obtain ⟨⟨h1, h2⟩, h3, h4⟩ := h
  have hn := h3 n (by simp)
  refine ⟨⟨?_, h2⟩, fun m hm => ?_, ?_⟩
  · rw [smN_eq] at h1 ⊢; obtain ⟨a1, a2, a3, a4, a5⟩ := h1; refine ⟨a1, a2, a3, ?_, ?_⟩
    · rw [kids_addK, List.length_append]; simp only [List.length_cons, List.length_nil]; omega
    · rw [kids_addK, smNs_app]; exact ⟨a5, hk, trivial⟩
  · rcases List.mem_cons.1 hm with rfl | hm
    · rw [kids_addK, List.length_append]; simp only [List.length_cons, List.length_nil]; omega
    · have := h3 m (List.mem_cons_of_mem _ hm); omega
  · simp only [sizes, size_addK] at h4 ⊢; omega
theorem Sz.push {M i : Nat} {l : List Nd} (h : Sz M i l) {n : Nd} (hn : smN M n) (hk : n.kids = []) : Sz M (i + 1) (n :: l) := by
  obtain ⟨h1, h3, h4⟩ := h
  refine ⟨⟨hn, h1⟩, fun m hm => ?_, ?_⟩
  · rcases List.mem_cons.1 hm with rfl | hm
    · rw [hk]; simp
    · have := h3 m hm; omega
  · rw [sizes, n.size_eq, hk]; simp only [sizes]; omega
theorem Sz.text {M i : Nat} {n : Nd} {l : List Nd} (h : Sz M i (n :: l)) {t : List UInt8} (ht : t.length ≤ M) : Sz M (i + 1) (.mk n.kind n.pl t n.attrs n.kids :: l) := by
  obtain ⟨⟨h1, h2⟩, h3, h4⟩ := h; rw [smN_eq] at h1; obtain ⟨a1, a2, a3, a4, a5⟩ := h1
  refine ⟨⟨⟨ht, a2, a3, a4, a5⟩, h2⟩, fun m hm => ?_, ?_⟩
  · rcases List.mem_cons.1 hm with rfl | hm
    · have := h3 n (by simp)
      show n.kids.length ≤ _; omega
    · have := h3 m (List.mem_cons_of_mem _ hm); omega
  · simp only [sizes, Nd.size_eq, Nd.kids] at h4 ⊢; omega
theorem Sz.pop {M i : Nat} {n m : Nd} {l : List Nd} (h : Sz M i (n :: m :: l)) (hi : i + 1 ≤ M) : Sz M (i + 1) (addK m n :: l) := by
  obtain ⟨⟨h1, h2, h5⟩, h3, h4⟩ := h
  have hm := h3 m (by simp)
  refine ⟨⟨?_, h5⟩, fun x hx => ?_, ?_⟩
  · rw [smN_eq] at h2 ⊢; obtain ⟨a1, a2, a3, a4, a5⟩ := h2; refine ⟨a1, a2, a3, ?_, ?_⟩
    · rw [kids_addK, List.length_append]; simp only [List.length_cons, List.length_nil]; omega
    · rw [kids_addK, smNs_app]; exact ⟨a5, h1, trivial⟩
  · rcases List.mem_cons.1 hx with rfl | hx
    · rw [kids_addK, List.length_append]; simp only [List.length_cons, List.length_nil]; omega
    · have := h3 x (by simp [hx]); omega
  · simp only [sizes, size_addK] at h4 ⊢; omega
theorem sm_tok {M : Nat} {t : Ex.Tok} (h : tokM M t) (k p : Int) : smN M (.mk k p [] (t.attrs.map toA) []) := by
  refine ⟨Nat.zero_le _, by rw [List.length_map]; exact h.2.1, fun a ha => ?_, Nat.zero_le _, trivial⟩
  obtain ⟨b, hb, rfl⟩ := List.mem_map.1 ha; exact h.2.2 b hb
theorem sz_step {M i : Nat} {s : Ps} {t : Ex.Tok} (h : Sz M i s.rows) (ht : tokM M t) (hi : i + 1 ≤ M) : Sz M (i + 1) (stepP t s).rows := by
  obtain ⟨rows, pl, e⟩ := s
  cases rows with
  | nil =>
    have : (stepP t ⟨[], pl, e⟩).rows = [] := by
      unfold stepP
      cases t.kind == 1 <;> cases t.kind == 7 <;> cases t.kind == 2 || t.kind == 3 <;> cases t.kind == 5 <;> rfl
    rw [this]
    exact ⟨trivial, fun n hn => (by cases hn), by simp [sizes]⟩
  | cons n r =>
    unfold stepP
    cases t.kind == 1 with
    | true =>
      simp only [cond_true]; unfold textP; simp only
      cases n.kind == 7 || n.kind == 10 with
      | true => simp only [cond_true]; cases (trimM t.text).isEmpty <;> exact h.up
      | false => simp only [cond_false]; exact h.add ⟨ht.1, Nat.zero_le _, fun a ha => (by cases ha), Nat.zero_le _, trivial⟩ (by simp [Nd.size, sizes]) hi
    | false =>
      simp only [cond_false]
      cases t.kind == 7 with
      | true => simp only [cond_true]; exact h.text ht.1
      | false =>
        simp only [cond_false]
        cases t.kind == 2 || t.kind == 3 with
        | true =>
          simp only [cond_true]; unfold begP; simp only
          cases emptyB (elM t.name) with
          | true => simp only [cond_true]; exact h.add (sm_tok ht _ _) (by simp [Nd.size, sizes]) hi
          | false => simp only [cond_false]; exact h.push (sm_tok ht _ _) rfl
        | false =>
          simp only [cond_false]
          cases t.kind == 5 with
          | true => simp only [cond_true]; exact h.push (n := .mk 14 t.fr [] [] []) ⟨Nat.zero_le _, Nat.zero_le _, fun a ha => (by cases ha), Nat.zero_le _, trivial⟩ rfl
          | false =>
            simp only [cond_false]; unfold endP; simp only
            cases endBad t n with
            | true => simp only [cond_true]; exact h.up
            | false =>
              simp only [cond_false]
              cases r with
              | nil => exact h.up
              | cons m q => exact h.pop hi
theorem sz_parse {M : Nat} : ∀ (l : List Ex.Tok) (i : Nat) (s : Ps), Sz M i s.rows → (∀ t ∈ l, tokM M t) → i + l.length ≤ M → Sz M (i + l.length) (parseL l s).rows
  | [], i, s, h, _, _ => h
  | t :: l, i, s, h, ht, hi => by
    simp only [List.length_cons] at hi ⊢
    have h1 := sz_step h (ht t (by simp)) (by omega)
    rw [parseL]
    cases (stepP t s).e == 0 with
    | true =>
      have := sz_parse l (i + 1) _ h1 (fun u hu => ht u (List.mem_cons_of_mem _ hu)) (by omega)
      simp only [cond_true]
      rw [show i + (l.length + 1) = i + 1 + l.length by omega]
      exact this
    | false =>
      simp only [cond_false]
      exact ⟨h1.sm, fun n hn => by have := h1.kids n hn; omega, by have := h1.size; omega⟩
theorem parse_small {s : List UInt8} {n : Nd} (h : parseM s = .ok n) : s.length ≤ 65536 ∧ smN (2 * s.length + 1) n ∧ n.size ≤ 2 * s.length + 1 := by
  unfold parseM at h; split at h
  · cases h
  · rename_i hs; split at h
    · cases h
    · rename_i l hl; obtain ⟨h1, h2⟩ := tok_M hl
      have h3 := sz_parse l 0 page0 ⟨⟨⟨Nat.zero_le _, Nat.zero_le _, fun a ha => (by cases ha), Nat.zero_le _, trivial⟩, trivial⟩, fun n hn => (by rw [List.mem_singleton.1 hn]; exact Nat.zero_le _), by simp [page0, sizes, Nd.size]⟩ h2 (by omega)
      unfold parseT doneT at h
      cases he : (parseL l page0).e == 0 with
      | false => rw [he] at h; cases h
      | true =>
        rw [he] at h; simp only [cond_true] at h; split at h
        · rename_i m hm
          injection h with h
          subst h; rw [hm] at h3; have := h3.size; simp only [sizes] at this
          exact ⟨by omega, h3.sm.1, by omega⟩
        · cases h
theorem smN_nd0 (M : Nat) : smN M nd0 := ⟨Nat.zero_le _, Nat.zero_le _, fun a ha => (by cases ha), Nat.zero_le _, trivial⟩
theorem parseN_small (s : List UInt8) : smN (2 * s.length + 1) (parseN s) ∧ (parseN s).size ≤ 2 * s.length + 1 ∧ (65536 < s.length → parseN s = nd0) := by
  unfold parseN
  cases h : parseM s with
  | ok n =>
    obtain ⟨h1, h2, h3⟩ := parse_small h
    exact ⟨h2, h3, fun hs => by omega⟩
  | error x => exact ⟨smN_nd0 _, by simp [parseV, nd0, Nd.size, sizes], fun _ => rfl⟩
theorem parseN_size (s : List UInt8) : (parseN s).size ≤ 131073 := by
  obtain ⟨_, h1, h2⟩ := parseN_small s
  by_cases hs : 65536 < s.length
  · rw [h2 hs]; decide
  · omega
end Go.Ai.Sp
end
section
namespace Go.Ai.Sp
open Go.Ai Go.RowKit
def oV : List UInt8 := [60, 101, 115, 105, 58, 118, 97, 114, 115, 62]
def cV : List UInt8 := [60, 47, 101, 115, 105, 58, 118, 97, 114, 115, 62]
def varsS : List UInt8 := [118, 97, 114, 115]
def PartsAt (a b : List UInt8) : Prop :=
  parseE (a ++ (oV ++ cV) ++ b) = 0 ∧ (parseN (a ++ (oV ++ cV) ++ b)).same (.mk 1 0 [] [] ((parseN a).kids ++ [.mk 13 0 [] [] []] ++ (parseN b).kids)) = true ∧
  ((parseN a).depth = 16 → parseE (oV ++ a ++ cV) = 3 ∧ 10 ≤ parseA (oV ++ a ++ cV)) ∧
  ((parseN a).depth ≠ 16 → parseE (oV ++ a ++ cV) = 0 ∧ (parseN (oV ++ a ++ cV)).same (.mk 1 0 [] [] [.mk 13 0 [] [] (parseN a).kids]) = true)
def PartsLaw : Prop := ∀ a b : List UInt8, a.length ≤ 3000 → b.length ≤ 3000 → parseE a = 0 → parseE b = 0 → PartsAt a b
def partsC : Con := fun vs h K => ∃ a b : List UInt8, vs = [.str a, .str b] ∧ K (.bool true) h
def tO (p : Nat) : Ex.Tok := ⟨2, varsS, [], oV, p, p + 10⟩
def tC (p : Nat) : Ex.Tok := ⟨4, varsS, [], cV, p, p + 11⟩
theorem next_open {s R : List UInt8} {p : Nat} {hid : Option Nat} (hp : p ≤ s.length) (h : s.drop p = oV ++ R) : Ex.spec s p hid.isSome = true ∧ Ex.nextM s p hid = .ok ([tO p], hid) := by
  have h1 : Ex.has s Ex.opensS p = true := by
    unfold Ex.has; rw [h]; rfl
  obtain ⟨u, u1, u2, u3, u4, u5, u6, u7⟩ := Ex.open_at (t := ⟨2, varsS, [], [], 0, 0⟩) (R := R) hp (by rw [h]; rfl) (.inr rfl) rfl trivial
  have hu : u = tO p := by
    obtain ⟨k, n, l, tx, fr, to⟩ := u; simp only at u2 u3 u4 u5 u6 u7
    have hl : l = [] := by
      cases l with
      | nil => rfl
      | cons x y => exact u4.elim
    subst u2 u3 u5 u6 u7 hl; rfl
  refine ⟨?_, ?_⟩
  · unfold Ex.spec; rw [h1]; rfl
  · unfold Ex.nextM; rw [if_pos h1, u1, hu]; simp only; rw [Ex.own_of (t := tO p) rfl rfl (.inr ⟨rfl, rfl⟩)]
theorem next_close {s R : List UInt8} {p : Nat} {hid : Option Nat} (hp : p ≤ s.length) (h : s.drop p = cV ++ R) : Ex.spec s p hid.isSome = true ∧ Ex.nextM s p hid = .ok ([tC p], hid) := by
  have h0 : Ex.has s Ex.opensS p = false := by
    unfold Ex.has; rw [h]; rfl
  have h1 : Ex.has s Ex.closesS p = true := by
    unfold Ex.has; rw [h]; rfl
  have hu := Ex.close_at (t := ⟨4, varsS, [], [], 0, 0⟩) (R := R) hp (by rw [h]; rfl) rfl rfl
  refine ⟨?_, ?_⟩
  · unfold Ex.spec; rw [h0, h1]; rfl
  · unfold Ex.nextM
    rw [if_neg (by rw [h0]; decide), if_pos h1, hu]
    rfl
theorem lexG_end {s : List UInt8} {g p : Nat} (hg : 0 < g) (hp : s.length ≤ p) : Ex.lexG s g p none = .ok [] := by
  cases g with
  | zero => omega
  | succ g =>
    unfold Ex.lexG; rw [if_pos hp]
theorem emb_end : Ex.Emb [] := .inl rfl
theorem lex_last {x b : List UInt8} {lb : List Ex.Tok} {G : Nat} (hb : Ex.lexM b = .ok lb) (hG : (x ++ b).length - x.length < G) : Ex.lexG (x ++ b) G x.length none = .ok (lb.map (Ex.shT x.length)) := by
  have e : x ++ b = x ++ b ++ [] := by simp
  rw [e] at hG ⊢
  obtain ⟨g, g1, g2⟩ := Ex.lexG_emb (x := x) (a := b) (c := []) emb_end (b.length + 1) 0 none lb G (by omega) (Nat.zero_le _) hG hb
  have := g2 [] (lexG_end (by omega) (by simp))
  simpa using this
theorem lex_parts {a b : List UInt8} {la lb : List Ex.Tok} (ha : Ex.lexM a = .ok la) (hb : Ex.lexM b = .ok lb) :
    Ex.lexM (a ++ (oV ++ cV) ++ b) = .ok (la.map (Ex.shT 0) ++ tO a.length :: tC (a.length + 10) :: lb.map (Ex.shT (a.length + 21))) := by
  have hc : Ex.Emb (oV ++ (cV ++ b)) := .inr ⟨⟨_, rfl⟩, fun hid => rfl⟩
  have es : a ++ (oV ++ cV) ++ b = [] ++ a ++ (oV ++ (cV ++ b)) := by simp
  obtain ⟨g, g1, g2⟩ := Ex.lexG_emb (x := []) (a := a) (c := oV ++ (cV ++ b)) hc (a.length + 1) 0 none la ((a ++ (oV ++ cV) ++ b).length + 1) (by omega) (Nat.zero_le _) (by rw [es]; simp) ha
  have hd : ([] ++ a ++ (oV ++ (cV ++ b))).drop a.length = oV ++ (cV ++ b) := by
    have := Ex.emb_drop (x := []) (a := a) (c := oV ++ (cV ++ b)) (i := a.length) (Nat.le_refl _)
    rw [List.drop_length, show ([] : List UInt8).length + a.length = a.length from Nat.zero_add _] at this
    exact this
  have hl : ([] ++ a ++ (oV ++ (cV ++ b))).length = a.length + 21 + b.length := by
    simp only [List.length_append, List.length_nil, oV, cV, List.length_cons]; omega
  rw [hl] at g1; have hz : ([] : List UInt8).length + a.length = a.length := Nat.zero_add _; rw [hz] at g1 g2
  obtain ⟨g, rfl⟩ : ∃ m, g = m + 2 := ⟨g - 2, by omega⟩
  have hd2 : ([] ++ a ++ (oV ++ (cV ++ b))).drop (a.length + 10) = cV ++ b := by
    rw [← List.drop_drop, hd]; rfl
  obtain ⟨o1, o2⟩ := next_open (hid := none) (by rw [hl]; omega) hd
  obtain ⟨c1, c2⟩ := next_close (hid := none) (by rw [hl]; omega) hd2
  have hb2 : Ex.lexG ([] ++ a ++ (oV ++ (cV ++ b))) g (a.length + 21) none = .ok (lb.map (Ex.shT (a.length + 21))) := by
    have e2 : [] ++ a ++ (oV ++ (cV ++ b)) = (a ++ (oV ++ cV)) ++ b := by simp
    have e3 : (a ++ (oV ++ cV)).length = a.length + 21 := by simp [oV, cV]
    rw [e2, ← e3]; refine lex_last hb ?_; rw [← e2, hl, e3]; omega
  have h1 := Ex.lexG_step (g := g) (by rw [hl]; omega) c1 c2 hb2
  have h2 := Ex.lexG_step (g := g + 1) (by rw [hl]; omega) o1 o2 h1
  have h3 := g2 _ h2; unfold Ex.lexM; rw [← es] at h3; exact h3
theorem lex_in {a : List UInt8} {la : List Ex.Tok} (ha : Ex.lexM a = .ok la) :
    Ex.lexM (oV ++ a ++ cV) = .ok (tO 0 :: (la.map (Ex.shT 10) ++ [tC (10 + a.length)])) := by
  have hc : Ex.Emb cV := .inr ⟨⟨_, rfl⟩, fun hid => rfl⟩
  have hl : (oV ++ a ++ cV).length = 21 + a.length := by
    simp only [List.length_append, List.length_nil, oV, cV, List.length_cons]; omega
  obtain ⟨g, g1, g2⟩ := Ex.lexG_emb (x := oV) (a := a) (c := cV) hc (a.length + 1) 0 none la (oV ++ a ++ cV).length (by omega) (Nat.zero_le _) (by rw [hl]; simp [oV]; omega) ha
  have hd := Ex.emb_drop (x := oV) (a := a) (c := cV) (i := a.length) (Nat.le_refl _); rw [List.drop_length, List.nil_append] at hd
  have hd' : (oV ++ a ++ cV).drop (oV.length + a.length) = cV ++ [] := by rw [hd, List.append_nil]
  have ho : oV.length = 10 := rfl
  obtain ⟨c1, c2⟩ := next_close (hid := none) (by rw [hl, ho]; omega) hd'
  obtain ⟨o1, o2⟩ := next_open (s := oV ++ a ++ cV) (R := a ++ cV) (p := 0) (hid := none) (Nat.zero_le _) (by rw [List.append_assoc]; rfl)
  rw [hl, ho] at g1
  obtain ⟨g, rfl⟩ : ∃ m, g = m + 2 := ⟨g - 2, by omega⟩
  have h1 := Ex.lexG_step (g := g + 1) (by rw [hl, ho]; omega) c1 c2 (lexG_end (by omega) (by rw [hl, ho]; show 21 + a.length ≤ 10 + a.length + 11; omega))
  have h3 := g2 _ h1; unfold Ex.lexM
  have h4 := Ex.lexG_step (s := oV ++ a ++ cV) (g := (oV ++ a ++ cV).length) (p := 0) (by rw [hl]; omega) o1 o2 h3
  exact h4
end Go.Ai.Sp
end
section
namespace Go.Ai.Sp
open Go.Ai Go.RowKit
theorem same_iff {a b : Nd} : a.same b = true ↔ a.kind = b.kind ∧ a.text = b.text ∧ alikes a.attrs b.attrs = true ∧ sames a.kids b.kids = true := by
  rw [Nd.same_eq]; simp only [Bool.and_eq_true, beq_iff_eq]; constructor
  · rintro ⟨⟨⟨h1, h2⟩, h3⟩, h4⟩
    exact ⟨h1, h2, h3, h4⟩
  · rintro ⟨h1, h2, h3, h4⟩
    exact ⟨⟨⟨h1, h2⟩, h3⟩, h4⟩
theorem sames_app2 : ∀ {a b c d : List Nd}, sames a b = true → sames c d = true → sames (a ++ c) (b ++ d) = true
  | [], [], _, _, _, h => h
  | [], _ :: _, _, _, h, _ => by cases h
  | _ :: _, [], _, _, h, _ => by cases h
  | u :: a, v :: b, c, d, h, h2 => by
    simp only [sames, Bool.and_eq_true] at h; simp only [List.cons_append, sames, Bool.and_eq_true]; exact ⟨h.1, sames_app2 h.2 h2⟩
theorem sames_app {a b : List Nd} {x y : Nd} (h : sames a b = true) (h2 : x.same y = true) : sames (a ++ [x]) (b ++ [y]) = true := sames_app2 h (by simp [sames, h2])
theorem sames_last : ∀ {a b : List Nd}, sames a b = true → lastN a = lastN b
  | [], [], _ => rfl
  | [], _ :: _, h => by cases h
  | _ :: _, [], h => by cases h
  | u :: a, v :: b, h => by
    simp only [sames, Bool.and_eq_true] at h
    cases a with
    | nil =>
      cases b with
      | nil => exact (same_iff.1 h.1).1
      | cons _ _ => cases h.2
    | cons x a =>
      cases b with
      | nil => cases h.2
      | cons y b =>
        have := sames_last (a := x :: a) (b := y :: b) h.2; simpa [lastN] using this
theorem alikes_sh (k : Nat) : ∀ l : List Ex.Att, alikes ((l.map (Ex.shA k)).map toA) (l.map toA) = true
  | [] => rfl
  | a :: l => by
    simp only [List.map_cons, alikes, alikes_sh k l, Bool.and_true]; simp [alike, toA, Ex.shA]
theorem depths_app : ∀ (a b : List Nd), depths (a ++ b) = max (depths a) (depths b)
  | [], b => by simp [depths]
  | n :: a, b => by
    simp only [List.cons_append, depths, depths_app a b]; omega
theorem depth_mk (k p : Int) (t : List UInt8) (al : List Go.Ai.Att) (ks : List Nd) : (Nd.mk k p t al ks).depth = depths ks := rfl
theorem depth_kids (n : Nd) : n.depth = depths n.kids := by
  obtain ⟨k, p, t, al, ks⟩ := n; rfl
theorem depth_addK (n k : Nd) : (addK n k).depth = max n.depth (k.depth + if k.kind = 2 then 0 else 1) := by
  unfold addK; rw [depth_mk, depths_app, depth_kids n]; simp only [depths, Nat.max_zero]
inductive Ctx (K : Int) (K0 bel : List Nd) : List Nd → List Nd → Prop
  | base {n' n : Nd} {ks : List Nd} : n'.kind = K → n.kind = 1 → n'.text = [] → n.text = [] → n'.attrs = [] → n.attrs = [] → n'.kids = K0 ++ ks → sames ks n.kids = true → Ctx K K0 bel (n' :: bel) [n]
  | up {n' n : Nd} {r' r : List Nd} : n'.same n = true → Ctx K K0 bel r' r → Ctx K K0 bel (n' :: r') (n :: r)
section
variable {K : Int} {K0 bel : List Nd}
theorem Ctx.len {r' r : List Nd} (h : Ctx K K0 bel r' r) : r'.length = r.length + bel.length := by
  induction h with
  | base => exact Nat.add_comm _ _
  | up _ _ ih => simp [ih]; omega
theorem Ctx.kind {n' n : Nd} {r' r : List Nd} (hK : K = 1 ∨ K = 13) (h : Ctx K K0 bel (n' :: r') (n :: r)) {c : Int} (h1 : c ≠ 1) (h13 : c ≠ 13) : (n'.kind == c) = (n.kind == c) := by
  cases h with
  | base a1 a2 =>
    rw [a1, a2]
    have x1 : ((1 : Int) == c) = false := by simpa using Ne.symm h1
    have x2 : ((13 : Int) == c) = false := by simpa using Ne.symm h13
    rcases hK with rfl | rfl
    · rfl
    · rw [x1, x2]
  | up a1 _ => rw [(same_iff.1 a1).1]
theorem Ctx.may {n' n : Nd} {r' r : List Nd} (hK : K = 1 ∨ K = 13) (h : Ctx K K0 bel (n' :: r') (n :: r)) (x : Int) : mayB n'.kind (lastN n'.kids) x = mayB n.kind (lastN n.kids) x := by
  cases h with
  | base a1 a2 =>
    rw [a1, a2]
    rcases hK with rfl | rfl <;> rfl
  | up a1 _ =>
    obtain ⟨b1, _, _, b4⟩ := same_iff.1 a1; rw [b1, sames_last b4]
theorem Ctx.add {n' n c' c : Nd} {r' r : List Nd} (h : Ctx K K0 bel (n' :: r') (n :: r)) (hc : c'.same c = true) : Ctx K K0 bel (addK n' c' :: r') (addK n c :: r) := by
  cases h with
  | base a1 a2 a3 a4 a5 a6 a7 a8 => exact .base a1 a2 a3 a4 a5 a6 (by show n'.kids ++ [c'] = _; rw [a7, List.append_assoc]) (sames_app a8 hc)
  | up a1 a2 =>
    obtain ⟨b1, b2, b3, b4⟩ := same_iff.1 a1; exact .up (same_iff.2 ⟨b1, b2, b3, sames_app b4 hc⟩) a2
end
def dS : List Nd → Nat
  | [] => 0
  | n :: r => max (r.length + n.depth) (dS r)
def attrsOk (x : El) (l : List Ex.Att) : Bool := (x.names.take x.must).all (fun nm => l.any fun a => a.name == nm) && l.all fun a => x.names.any (· == a.name) && valM a.name a.value
theorem attrsOk_sh (x : El) (k : Nat) (l : List Ex.Att) : attrsOk x (l.map (Ex.shA k)) = attrsOk x l := by
  unfold attrsOk; simp only [List.any_map, List.all_map]; rfl
theorem fold_ne {α : Type} {c : α → Bool} {f : α → Int} : ∀ (l : List α) (p e : Int), e ≠ 0 → l.foldl (fun s a => bif c a then fE (f a) 12 s.1 s.2 else s) (p, e) = (p, e)
  | [], _, _, _ => rfl
  | a :: l, p, e, h => by
    simp only [List.foldl_cons]
    have : (bif c a then fE (f a) 12 p e else (p, e)) = (p, e) := by
      cases c a with
      | false => rfl
      | true =>
        have h0 : (e == 0) = false := by simpa using h
        simp only [cond_true, fE, h0, cond_false]
    rw [this]; exact fold_ne l p e h
theorem attrs_ne {x : El} {fr : Int} {l : List Ex.Att} {p e : Int} (h : e ≠ 0) : attrsM x fr l (p, e) = (p, e) := by
  unfold attrsM
  rw [fold_ne (c := fun nm : List UInt8 => !(l.any fun a => a.name == nm)) (f := fun _ => fr) _ _ _ h, fold_ne (c := fun a : Ex.Att => !(x.names.any (· == a.name)) || !valM a.name a.value) (f := fun a => (a.at' : Int)) _ _ _ h]
theorem fold_iff {α : Type} {c : α → Bool} {f : α → Int} : ∀ (l : List α) (p : Int), ((l.foldl (fun s a => bif c a then fE (f a) 12 s.1 s.2 else s) (p, 0)).2 = 0 ↔ l.all (fun a => !c a) = true) ∧ (l.all (fun a => !c a) = true → l.foldl (fun s a => bif c a then fE (f a) 12 s.1 s.2 else s) (p, 0) = (p, 0))
  | [], p => ⟨⟨fun _ => rfl, fun _ => rfl⟩, fun _ => rfl⟩
  | a :: l, p => by
    simp only [List.foldl_cons, List.all_cons]
    cases h : c a with
    | false =>
      simp only [cond_false, Bool.not_false, Bool.true_and]; exact fold_iff l p
    | true =>
      have : (bif true then fE (f a) 12 p 0 else (p, 0)) = (f a, 12) := rfl
      rw [this, fold_ne l (f a) 12 (by decide)]
      simp
theorem attrs_iff (x : El) (fr : Int) (l : List Ex.Att) (p : Int) : ((attrsM x fr l (p, 0)).2 = 0 ↔ attrsOk x l = true) ∧ (attrsOk x l = true → attrsM x fr l (p, 0) = (p, 0)) := by
  unfold attrsM attrsOk
  obtain ⟨h1, h2⟩ := fold_iff (c := fun nm : List UInt8 => !(l.any fun a => a.name == nm)) (f := fun _ => fr) (x.names.take x.must) p
  simp only [Bool.not_not] at h1 h2
  obtain ⟨h3, h4⟩ := fold_iff (c := fun a : Ex.Att => !(x.names.any (· == a.name)) || !valM a.name a.value) (f := fun a => (a.at' : Int)) l p
  have e : (l.all fun a => !(!(x.names.any (· == a.name)) || !valM a.name a.value)) = l.all fun a => x.names.any (· == a.name) && valM a.name a.value := by
    congr 1
    funext a
    simp
  rw [e] at h3 h4; rw [Bool.and_eq_true]
  cases hh : (x.names.take x.must).all (fun nm => l.any fun a => a.name == nm) with
  | true =>
    rw [h2 hh]
    exact ⟨⟨fun h => ⟨rfl, h3.1 h⟩, fun h => h3.2 h.2⟩, fun h => h4 h.2⟩
  | false =>
    refine ⟨⟨fun h => ?_, fun h => by cases h.1⟩, fun h => by cases h.1⟩
    generalize hs : (x.names.take x.must).foldl (fun s nm => bif !(l.any fun a => a.name == nm) then fE fr 12 s.1 s.2 else s) (p, 0) = s at h h1
    have hne : s.2 ≠ 0 := fun e2 => by
      have := h1.1 e2; rw [hh] at this; cases this
    obtain ⟨s1, s2⟩ := s; rw [fold_ne l s1 s2 hne] at h; exact absurd h hne
end Go.Ai.Sp
end
section
namespace Go.Ai.Sp
open Go.Ai Go.RowKit
theorem fail_e (p x : Int) (hx : x ≠ 0) (s : Ps) : (failP p x s).e ≠ 0 := by
  unfold failP fE; simp only
  cases h : s.e == 0 with
  | true => exact hx
  | false =>
    intro h2; simp only [cond_false] at h2; rw [h2] at h; cases h
def begOk (x : El) (t : Ex.Tok) (n : Nd) (r : List Nd) : Bool := !((emptyB x != (t.kind == 3)) || !mayB n.kind (lastN n.kids) x.kind) && (decide (r.length + 1 ≤ 16) && attrsOk x t.attrs)
theorem beg_ok (x : El) (t : Ex.Tok) (n : Nd) (r : List Nd) (s : Ps) (he : s.e = 0) : ((begFail x t n r s).e = 0 ↔ begOk x t n r = true) ∧ (begOk x t n r = true → begFail x t n r s = s) := by
  obtain ⟨rows, pl, e⟩ := s; simp only at he; subst he; unfold begFail begOk
  cases h1 : (emptyB x != (t.kind == 3)) || !mayB n.kind (lastN n.kids) x.kind with
  | true =>
    simp only [cond_true, Bool.not_true, Bool.false_and]
    refine ⟨⟨fun h => ?_, fun h => by cases h⟩, fun h => by cases h⟩
    exfalso; have e1 : failP t.fr 13 ⟨rows, pl, 0⟩ = ⟨rows, t.fr, 13⟩ := rfl
    have e2 : (bif decide (16 < r.length + 1) then failP t.fr 3 (failP t.fr 13 ⟨rows, pl, 0⟩) else failP t.fr 13 ⟨rows, pl, 0⟩) = ⟨rows, t.fr, 13⟩ := by
      rw [e1]
      cases decide (16 < r.length + 1) <;> rfl
    rw [e2] at h
    simp only [attrs_ne (by decide : (13 : Int) ≠ 0), attrs_ne (by decide : (3 : Int) ≠ 0)] at h
    cases h
  | false =>
    simp only [cond_false, Bool.not_false, Bool.true_and]
    by_cases h2 : 16 < r.length + 1
    · rw [decide_eq_true h2, decide_eq_false (by omega)]
      simp only [cond_true, Bool.false_and]
      refine ⟨⟨fun h => ?_, fun h => by cases h⟩, fun h => by cases h⟩
      exfalso; have e1 : failP t.fr 3 ⟨rows, pl, 0⟩ = ⟨rows, t.fr, 3⟩ := rfl; rw [e1] at h
      simp only [attrs_ne (by decide : (13 : Int) ≠ 0), attrs_ne (by decide : (3 : Int) ≠ 0)] at h
      cases h
    · rw [decide_eq_false h2, decide_eq_true (by omega)]
      simp only [cond_false, Bool.true_and]; obtain ⟨h3, h4⟩ := attrs_iff x t.fr t.attrs pl
      exact ⟨h3, fun h => by rw [h4 h]⟩
theorem beg_deep (x : El) (t : Ex.Tok) (n : Nd) (r : List Nd) (s : Ps) (he : s.e = 0) (h1 : (emptyB x != (t.kind == 3) || !mayB n.kind (lastN n.kids) x.kind) = false) (h2 : 16 < r.length + 1) : (begFail x t n r s).e = 3 ∧ (begFail x t n r s).pl = t.fr := by
  obtain ⟨rows, pl, e⟩ := s; simp only at he; subst he; unfold begFail; rw [h1, decide_eq_true h2]; simp only [cond_false, cond_true]; have e1 : failP t.fr 3 ⟨rows, pl, 0⟩ = ⟨rows, t.fr, 3⟩ := rfl; rw [e1]
  simp only [attrs_ne (by decide : (13 : Int) ≠ 0), attrs_ne (by decide : (3 : Int) ≠ 0)]
  exact ⟨by trivial, by trivial⟩
theorem elM_kinds (s : List UInt8) : 3 ≤ (elM s).kind ∧ (elM s).kind ≤ 13 := by
  unfold elM
  repeat' (first | (cases (s == _) <;> simp only [cond_true, cond_false]) | exact ⟨by decide, by decide⟩)
section
variable {K : Int} {K0 bel : List Nd}
theorem step_sim {k : Nat} {t : Ex.Tok} {S S' : Ps} (hK : K = 1 ∨ K = 13) (hc : Ctx K K0 bel S'.rows S.rows) (he : S.e = 0) (he' : S'.e = 0) (h7 : t.kind = 7 → 2 ≤ S.rows.length) (hs : (stepP t S).e = 0)
    (hd : S.rows.length + bel.length ≤ 16 ∨ ¬(t.kind = 2 ∨ t.kind = 3 ∨ t.kind = 5)) :
    (stepP (Ex.shT k t) S').e = 0 ∧ Ctx K K0 bel (stepP (Ex.shT k t) S').rows (stepP t S).rows := by
  obtain ⟨rows, pl, e⟩ := S; obtain ⟨rows', pl', e'⟩ := S'; simp only at hc he he' h7 hd; subst he he'; have hlen := hc.len
  obtain ⟨n, r, rfl⟩ : ∃ n r, rows = n :: r := by cases hc <;> exact ⟨_, _, rfl⟩
  obtain ⟨n', r', rfl⟩ : ∃ n r, rows' = n :: r := by cases hc <;> exact ⟨_, _, rfl⟩
  simp only [List.length_cons] at hlen hd; unfold stepP at hs ⊢; have ek : (Ex.shT k t).kind = t.kind := rfl; rw [ek]
  cases k1 : t.kind == 1 with
  | true =>
    rw [k1] at hs; simp only [cond_true] at hs ⊢; unfold textP at hs ⊢; simp only at hs ⊢
    rw [hc.kind hK (by decide) (by decide), hc.kind hK (c := 10) (by decide) (by decide)]
    rw [show (Ex.shT k t).text = t.text from rfl]
    cases k2 : n.kind == 7 || n.kind == 10 with
    | true =>
      rw [k2] at hs; simp only [cond_true] at hs ⊢
      cases k3 : (trimM t.text).isEmpty with
      | true => simp only [cond_true]; exact ⟨by trivial, hc⟩
      | false =>
        rw [k3] at hs
        exact absurd hs (fail_e _ _ (by decide) _)
    | false =>
      simp only [cond_false]
      exact ⟨by trivial, hc.add (same_iff.2 ⟨rfl, rfl, rfl, rfl⟩)⟩
  | false =>
  rw [k1] at hs; simp only [cond_false] at hs ⊢
  cases k7 : t.kind == 7 with
  | true =>
    simp only [cond_true]; unfold rawP; simp only; have h2 := h7 (eq_of_beq k7)
    cases hc with
    | base => simp at h2
    | up a1 a2 =>
      obtain ⟨b1, b2, b3, b4⟩ := same_iff.1 a1
      exact ⟨by trivial, .up (same_iff.2 ⟨b1, rfl, b3, b4⟩) a2⟩
  | false =>
  rw [k7] at hs; simp only [cond_false] at hs ⊢
  cases k2 : t.kind == 2 || t.kind == 3 with
  | true =>
    rw [k2] at hs; simp only [cond_true] at hs ⊢
    have hd' : r.length + 1 + bel.length ≤ 16 := hd.resolve_right (fun h => h (by
      simp only [Bool.or_eq_true, beq_iff_eq] at k2
      rcases k2 with h | h
      · exact .inl h
      · exact .inr (.inl h)))
    unfold begP at hs ⊢; simp only at hs ⊢
    rw [show (Ex.shT k t).name = t.name from rfl]
    obtain ⟨g1, g2⟩ := beg_ok (elM t.name) t n r ⟨n :: r, pl, 0⟩ rfl; obtain ⟨g1', g2'⟩ := beg_ok (elM t.name) (Ex.shT k t) n' r' ⟨n' :: r', pl', 0⟩ rfl
    have hb : begOk (elM t.name) t n r = true := by
      refine g1.1 ?_
      cases he3 : emptyB (elM t.name) <;> rw [he3] at hs <;> exact hs
    have hb' : begOk (elM t.name) (Ex.shT k t) n' r' = true := by
      unfold begOk at hb ⊢; simp only [Bool.and_eq_true, decide_eq_true_eq] at hb ⊢
      rw [hc.may hK, show (Ex.shT k t).attrs = t.attrs.map (Ex.shA k) from rfl, attrsOk_sh]
      exact ⟨hb.1, by omega, hb.2.2⟩
    rw [g2 hb, g2' hb']
    have hsm : ∀ x : Int, (Nd.mk x ((Ex.shT k t).fr : Nat) [] ((Ex.shT k t).attrs.map toA) []).same (.mk x (t.fr : Nat) [] (t.attrs.map toA) []) = true := fun x => same_iff.2 ⟨rfl, rfl, alikes_sh k t.attrs, rfl⟩
    cases he3 : emptyB (elM t.name) with
    | true =>
      simp only [cond_true]
      exact ⟨by trivial, hc.add (hsm _)⟩
    | false =>
      simp only [cond_false]
      exact ⟨by trivial, .up (hsm _) hc⟩
  | false =>
  rw [k2] at hs; simp only [cond_false] at hs ⊢
  cases k5 : t.kind == 5 with
  | true =>
    rw [k5] at hs; simp only [cond_true] at hs ⊢
    have hd' : r.length + 1 + bel.length ≤ 16 := hd.resolve_right (fun h => h (.inr (.inr (eq_of_beq k5))))
    unfold hideP at hs ⊢; simp only at hs ⊢; rw [hc.may hK]
    cases h1 : mayB n.kind (lastN n.kids) 14 with
    | false =>
      rw [h1] at hs; simp only [Bool.not_false, cond_true] at hs; exfalso; have e1 : failP t.fr 13 ⟨n :: r, pl, 0⟩ = ⟨n :: r, t.fr, 13⟩ := rfl; rw [e1] at hs
      cases h2 : decide (16 < r.length + 1) with
      | true => rw [h2] at hs; cases hs
      | false => rw [h2] at hs; cases hs
    | true =>
      simp only [Bool.not_true, cond_false]
      rw [decide_eq_false (by omega)]
      simp only [cond_false]
      exact ⟨by trivial, .up (same_iff.2 ⟨rfl, rfl, rfl, rfl⟩) hc⟩
  | false =>
  rw [k5] at hs; simp only [cond_false] at hs ⊢; unfold endP at hs ⊢; simp only at hs ⊢; have ee : endK (Ex.shT k t) = endK t := rfl
  have e14 : endK t ≠ 1 := by
    unfold endK
    cases t.kind == 4 with
    | true =>
      have := elM_kinds t.name; simp only [cond_true]; omega
    | false => simp only [cond_false]; decide
  cases hb : endBad t n with
  | true =>
    rw [hb] at hs
    exact absurd hs (fail_e _ _ (by decide) _)
  | false =>
    cases hc with
    | base a1 a2 =>
      unfold endBad at hb; rw [a2] at hb
      have : ((1 : Int) == endK t) = false := by simpa using Ne.symm e14
      rw [this] at hb; cases hb
    | up a1 a2 =>
      obtain ⟨b1, b2, b3, b4⟩ := same_iff.1 a1
      have hb' : endBad (Ex.shT k t) n' = false := by
        unfold endBad at hb ⊢; rw [ee, b1, sames_last b4]; exact hb
      rw [hb']; simp only [cond_false]
      obtain ⟨m, q, rfl⟩ : ∃ m q, r = m :: q := by cases a2 <;> exact ⟨_, _, rfl⟩
      obtain ⟨m', q', rfl⟩ : ∃ m q, r' = m :: q := by cases a2 <;> exact ⟨_, _, rfl⟩
      exact ⟨by trivial, a2.add a1⟩
end
end Go.Ai.Sp
end
section
namespace Go.Ai.Sp
open Go.Ai Go.RowKit
def rawOk : Bool → List Ex.Tok → Prop
  | _, [] => True
  | b, t :: l => (t.kind = 7 → b = true) ∧ rawOk (Ex.ownB t) l
theorem vg_raw {hid : Bool} {l : List Ex.Tok} (h : Ex.VG hid l) : rawOk false l := by
  have own0 : ∀ t : Ex.Tok, t.kind ≠ 2 → Ex.ownB t = false := fun t ht => by
    unfold Ex.ownB
    have : (t.kind == 2) = false := by simpa using ht
    rw [this]; rfl
  induction h with
  | nil => trivial
  | text h1 _ _ _ _ _ _ ih => exact ⟨fun h => by omega, by rw [own0 _ (by omega)]; exact ih⟩
  | tag h1 _ _ _ ih =>
    rcases h1 with h1 | ⟨h1, h2⟩
    · exact ⟨fun h => by omega, by rw [own0 _ (by omega)]; exact ih⟩
    · exact ⟨fun h => by omega, by rw [h2]; exact ih⟩
  | own h1 h2 _ h4 _ _ h7 _ _ _ _ ih =>
    refine ⟨fun h => by omega, ⟨fun _ => ?_, ?_⟩⟩
    · unfold Ex.ownB
      rcases h2 with h2 | h2 <;> rw [h1, h2] <;> rfl
    · rw [own0 _ (by omega)]
      exact ih
  | close h1 _ _ _ ih => exact ⟨fun h => by omega, by rw [own0 _ (by omega)]; exact ih⟩
  | hide h1 _ _ _ ih => exact ⟨fun h => by omega, by rw [own0 _ (by omega)]; exact ih⟩
  | shown h1 _ _ _ _ ih => exact ⟨fun h => by omega, by rw [own0 _ (by omega)]; exact ih⟩
theorem dS_add (n c : Nd) (r : List Nd) : dS (addK n c :: r) = max (dS (n :: r)) (r.length + (c.depth + if c.kind = 2 then 0 else 1)) := by
  simp only [dS, depth_addK]; omega
def tagB (t : Ex.Tok) : Prop := t.kind = 2 ∨ t.kind = 3 ∨ t.kind = 5
structure Stp (t : Ex.Tok) (S : Ps) : Prop where
  ne : (stepP t S).rows ≠ []
  le : dS S.rows ≤ dS (stepP t S).rows
  tag : tagB t → S.rows.length ≤ dS (stepP t S).rows ∧ dS (stepP t S).rows ≤ max (dS S.rows) S.rows.length ∧ S.rows.length ≤ 16
  no : ¬ tagB t → dS (stepP t S).rows ≤ dS S.rows
  own : Ex.ownB t = true → 2 ≤ (stepP t S).rows.length
theorem stp_same {t : Ex.Tok} {S : Ps} (h1 : (stepP t S).rows ≠ []) (h2 : dS (stepP t S).rows = dS S.rows) (hnt : ¬ tagB t) (hno : Ex.ownB t ≠ true) : Stp t S :=
  ⟨h1, Nat.le_of_eq h2.symm, fun h => absurd h hnt, fun _ => Nat.le_of_eq h2, fun h => absurd h hno⟩
theorem stp {t : Ex.Tok} {S : Ps} (hne : S.rows ≠ []) (he : S.e = 0) (hs : (stepP t S).e = 0) : Stp t S := by
  obtain ⟨rows, pl, e⟩ := S; simp only at he hne; subst he; obtain ⟨n, r, rfl⟩ := List.exists_cons_of_ne_nil hne
  cases k1 : t.kind == 1 with
  | true =>
    have k1' := eq_of_beq k1
    have hnt : ¬ tagB t := fun h => by unfold tagB at h; omega
    have hno : Ex.ownB t ≠ true := fun h => by
      unfold Ex.ownB at h; rw [k1'] at h; cases h
    have e1 : stepP t ⟨n :: r, pl, 0⟩ = textP t ⟨n :: r, pl, 0⟩ := by unfold stepP; rw [k1]; rfl
    rw [e1] at hs
    have key : (textP t ⟨n :: r, pl, 0⟩).rows ≠ [] ∧ dS (textP t ⟨n :: r, pl, 0⟩).rows = dS (n :: r) := by
      unfold textP at hs ⊢; simp only at hs ⊢
      cases k2 : n.kind == 7 || n.kind == 10 with
      | true =>
        rw [k2] at hs; simp only [cond_true] at hs ⊢
        cases k3 : (trimM t.text).isEmpty with
        | true => simp only [cond_true]; exact ⟨by simp, trivial⟩
        | false =>
          rw [k3] at hs
          exact absurd hs (fail_e _ _ (by decide) _)
      | false =>
        simp only [cond_false]
        refine ⟨by simp, ?_⟩
        rw [dS_add, depth_mk]; simp only [Nd.kind, depths, if_true, dS]; omega
    exact stp_same (by rw [e1]; exact key.1) (by rw [e1]; exact key.2) hnt hno
  | false =>
  cases k7 : t.kind == 7 with
  | true =>
    have k7' := eq_of_beq k7
    have hnt : ¬ tagB t := fun h => by unfold tagB at h; omega
    have hno : Ex.ownB t ≠ true := fun h => by
      unfold Ex.ownB at h; rw [k7'] at h; cases h
    have e1 : stepP t ⟨n :: r, pl, 0⟩ = rawP t ⟨n :: r, pl, 0⟩ := by unfold stepP; rw [k1, k7]; rfl
    have e2 : dS (rawP t ⟨n :: r, pl, 0⟩).rows = dS (n :: r) := by
      unfold rawP; simp only [dS, depth_mk, depth_kids n]
    exact stp_same (by rw [e1]; unfold rawP; simp) (by rw [e1]; exact e2) hnt hno
  | false =>
  cases k2 : t.kind == 2 || t.kind == 3 with
  | true =>
    have ht : tagB t := by
      simp only [Bool.or_eq_true, beq_iff_eq] at k2
      rcases k2 with h | h
      · exact .inl h
      · exact .inr (.inl h)
    have e1 : stepP t ⟨n :: r, pl, 0⟩ = begP t ⟨n :: r, pl, 0⟩ := by unfold stepP; rw [k1, k7, k2]; rfl
    rw [e1] at hs; obtain ⟨g1, g2⟩ := beg_ok (elM t.name) t n r ⟨n :: r, pl, 0⟩ rfl
    have hb : begOk (elM t.name) t n r = true := by
      refine g1.1 ?_; unfold begP at hs; simp only at hs
      cases he3 : emptyB (elM t.name) <;> rw [he3] at hs <;> exact hs
    have hl : r.length + 1 ≤ 16 := by
      unfold begOk at hb; simp only [Bool.and_eq_true, decide_eq_true_eq] at hb; exact hb.2.1
    have hk := elM_kinds t.name
    have e2 : begP t ⟨n :: r, pl, 0⟩ = bif emptyB (elM t.name) then ⟨addK n (.mk (elM t.name).kind t.fr [] (t.attrs.map toA) []) :: r, pl, 0⟩ else ⟨.mk (elM t.name).kind t.fr [] (t.attrs.map toA) [] :: n :: r, pl, 0⟩ := by
      unfold begP; simp only; rw [g2 hb]
    have key : (begP t ⟨n :: r, pl, 0⟩).rows ≠ [] ∧ dS (begP t ⟨n :: r, pl, 0⟩).rows = max (dS (n :: r)) (r.length + 1) ∧ (Ex.ownB t = true → 2 ≤ (begP t ⟨n :: r, pl, 0⟩).rows.length) := by
      rw [e2]
      cases he3 : emptyB (elM t.name) with
      | true =>
        simp only [cond_true]
        refine ⟨by simp, ?_, fun ho => ?_⟩
        · have hk2 : (Nd.mk (elM t.name).kind t.fr [] (t.attrs.map toA) []).kind ≠ 2 := by
            show (elM t.name).kind ≠ 2; omega
          rw [dS_add, depth_mk, if_neg hk2]; simp only [depths, Nat.zero_add]
        · exfalso; unfold Ex.ownB at ho; simp only [Bool.and_eq_true, Bool.or_eq_true, beq_iff_eq] at ho
          rcases ho.2 with h | h <;> rw [h] at he3 <;> cases he3
      | false =>
        simp only [cond_false]
        refine ⟨by simp, ?_, fun _ => by simp⟩
        simp only [dS, depth_mk, depths, List.length_cons, Nat.add_zero]; omega
    refine ⟨by rw [e1]; exact key.1, by rw [e1, key.2.1]; exact Nat.le_max_left _ _, fun _ => ⟨?_, ?_, hl⟩, fun h => absurd ht h, fun h => by rw [e1]; exact key.2.2 h⟩
    · rw [e1, key.2.1]; exact Nat.le_max_right _ _
    · rw [e1, key.2.1]; exact Nat.le_refl _
  | false =>
  have k2' : ¬ (t.kind = 2 ∨ t.kind = 3) := by simpa using k2
  have hno : Ex.ownB t ≠ true := fun h => by
    unfold Ex.ownB at h; simp only [Bool.and_eq_true, beq_iff_eq] at h; exact k2' (.inl h.1)
  cases k5 : t.kind == 5 with
  | true =>
    have ht : tagB t := .inr (.inr (eq_of_beq k5))
    have e1 : stepP t ⟨n :: r, pl, 0⟩ = hideP t ⟨n :: r, pl, 0⟩ := by unfold stepP; rw [k1, k7, k2, k5]; rfl
    rw [e1] at hs; have e3 : (hideP t ⟨n :: r, pl, 0⟩).rows = .mk 14 t.fr [] [] [] :: n :: r := rfl
    have hl : r.length + 1 ≤ 16 := by
      unfold hideP at hs; simp only at hs
      refine Nat.le_of_not_lt fun h => ?_
      rw [decide_eq_true (show 16 < r.length + 1 from h)] at hs
      simp only [cond_true] at hs
      exact absurd hs (fail_e _ _ (by decide) _)
    have e2 : dS (Nd.mk 14 t.fr [] [] [] :: n :: r) = max (dS (n :: r)) (r.length + 1) := by
      simp only [dS, depth_mk, depths, List.length_cons, Nat.add_zero]; omega
    refine ⟨by rw [e1, e3]; simp, by rw [e1, e3, e2]; exact Nat.le_max_left _ _, fun _ => ⟨?_, ?_, hl⟩, fun h => absurd ht h, fun h => absurd h hno⟩
    · rw [e1, e3, e2]; exact Nat.le_max_right _ _
    · rw [e1, e3, e2]; exact Nat.le_refl _
  | false =>
    have hnt : ¬ tagB t := fun h => by
      unfold tagB at h
      have k5' : t.kind ≠ 5 := by simpa using k5
      omega
    have e1 : stepP t ⟨n :: r, pl, 0⟩ = endP t ⟨n :: r, pl, 0⟩ := by unfold stepP; rw [k1, k7, k2, k5]; rfl
    rw [e1] at hs
    have key : (endP t ⟨n :: r, pl, 0⟩).rows ≠ [] ∧ dS (endP t ⟨n :: r, pl, 0⟩).rows = dS (n :: r) := by
      unfold endP at hs ⊢; simp only at hs ⊢
      cases hb : endBad t n with
      | true =>
        rw [hb] at hs
        exact absurd hs (fail_e _ _ (by decide) _)
      | false =>
        have hk : n.kind ≠ 2 := fun h2 => by
          unfold endBad at hb; simp only [Bool.or_eq_false_iff, Bool.not_eq_false', beq_iff_eq] at hb; have h3 := hb.1; rw [h2] at h3; unfold endK at h3; have := elM_kinds t.name
          cases h4 : t.kind == 4 with
          | true => rw [h4] at h3; simp only [cond_true] at h3; omega
          | false => rw [h4] at h3; simp at h3
        simp only [cond_false]
        cases r with
        | nil => exact ⟨by simp, rfl⟩
        | cons m q =>
          refine ⟨by simp, ?_⟩
          simp only; rw [dS_add]; simp only [dS, if_neg hk, List.length_cons]; omega
    exact stp_same (by rw [e1]; exact key.1) (by rw [e1]; exact key.2) hnt hno
end Go.Ai.Sp
end
section
namespace Go.Ai.Sp
open Go.Ai Go.RowKit
theorem parse_cons (t : Ex.Tok) (l : List Ex.Tok) (S : Ps) : ((stepP t S).e = 0 → parseL (t :: l) S = parseL l (stepP t S)) ∧ ((stepP t S).e ≠ 0 → parseL (t :: l) S = stepP t S) := by
  constructor
  · intro h; simp only [parseL, h]; rfl
  · intro h
    have : ((stepP t S).e == 0) = false := by simpa using h
    simp only [parseL, this, cond_false]
theorem parse_e {t : Ex.Tok} {l : List Ex.Tok} {S : Ps} (h : (parseL (t :: l) S).e = 0) : (stepP t S).e = 0 ∧ (parseL l (stepP t S)).e = 0 := by
  obtain ⟨h1, h2⟩ := parse_cons t l S
  have : (stepP t S).e = 0 := Decidable.byContradiction fun hn => by
    rw [h2 hn] at h; exact hn h
  rw [h1 this] at h; exact ⟨this, h⟩
theorem parse_app : ∀ (l r : List Ex.Tok) (S : Ps), S.e = 0 → (parseL l S).e = 0 → parseL (l ++ r) S = parseL r (parseL l S)
  | [], r, S, _, _ => rfl
  | t :: l, r, S, _, h => by
    obtain ⟨h1, h2⟩ := parse_e h; rw [List.cons_append, (parse_cons t (l ++ r) S).1 h1, (parse_cons t l S).1 h1]; exact parse_app l r _ h1 h2
theorem parse_stop : ∀ (l r : List Ex.Tok) (S : Ps), (parseL l S).e ≠ 0 → S.e = 0 → parseL (l ++ r) S = parseL l S
  | [], r, S, h, h0 => absurd h0 h
  | t :: l, r, S, h, h0 => by
    by_cases h1 : (stepP t S).e = 0
    · rw [List.cons_append, (parse_cons t (l ++ r) S).1 h1, (parse_cons t l S).1 h1]; rw [(parse_cons t l S).1 h1] at h; exact parse_stop l r _ h h1
    · rw [List.cons_append, (parse_cons t (l ++ r) S).2 h1, (parse_cons t l S).2 h1]
theorem dS_run : ∀ (l : List Ex.Tok) (S : Ps), S.rows ≠ [] → S.e = 0 → (parseL l S).e = 0 → dS S.rows ≤ dS (parseL l S).rows ∧ (dS S.rows ≤ 16 → dS (parseL l S).rows ≤ 16)
  | [], S, _, _, _ => ⟨Nat.le_refl _, fun h => h⟩
  | t :: l, S, hne, he, h => by
    obtain ⟨h1, h2⟩ := parse_e h; have h3 := stp hne he h1; obtain ⟨i1, i2⟩ := dS_run l _ h3.ne h1 h2; rw [(parse_cons t l S).1 h1]
    refine ⟨Nat.le_trans h3.le i1, fun h4 => i2 ?_⟩
    by_cases ht : tagB t
    · obtain ⟨_, a2, a3⟩ := h3.tag ht; omega
    · exact Nat.le_trans (h3.no ht) h4
section
variable {K : Int} {K0 bel : List Nd}
theorem Ctx.ne {r' r : List Nd} (h : Ctx K K0 bel r' r) : r ≠ [] := by cases h <;> simp
theorem sim {k : Nat} (hK : K = 1 ∨ K = 13) : ∀ (l : List Ex.Tok) (b : Bool) (S S' : Ps), Ctx K K0 bel S'.rows S.rows → S.e = 0 → S'.e = 0 → rawOk b l → (b = true → 2 ≤ S.rows.length) → (parseL l S).e = 0 → dS (parseL l S).rows + bel.length ≤ 16 →
    (parseL (l.map (Ex.shT k)) S').e = 0 ∧ Ctx K K0 bel (parseL (l.map (Ex.shT k)) S').rows (parseL l S).rows
  | [], b, S, S', hc, he, he', _, _, _, _ => ⟨he', hc⟩
  | t :: l, b, S, S', hc, he, he', hr, hb, h, hd => by
    obtain ⟨h1, h2⟩ := parse_e h; have h3 := stp hc.ne he h1; rw [(parse_cons t l S).1 h1] at hd ⊢; have h4 := (dS_run l _ h3.ne h1 h2).1
    obtain ⟨s1, s2⟩ := step_sim (k := k) hK hc he he' (fun h7 => hb (hr.1 h7)) h1 (by
      by_cases ht : tagB t
      · have := (h3.tag ht).1
        exact .inl (by omega)
      · exact .inr ht)
    rw [List.map_cons, (parse_cons _ _ S').1 s1]; exact sim hK l (Ex.ownB t) _ _ s2 h1 s1 hr.2 h3.own h2 hd
theorem sim_deep {k : Nat} (hK : K = 1 ∨ K = 13) (hbel : bel.length = 1) : ∀ (l : List Ex.Tok) (b : Bool) (S S' : Ps), Ctx K K0 bel S'.rows S.rows → S.e = 0 → S'.e = 0 → rawOk b l → (b = true → 2 ≤ S.rows.length) → (parseL l S).e = 0 → dS S.rows ≤ 15 → dS (parseL l S).rows = 16 →
    (parseL (l.map (Ex.shT k)) S').e = 3 ∧ (k : Int) ≤ (parseL (l.map (Ex.shT k)) S').pl
  | [], b, S, S', hc, he, he', _, _, _, h15, h16 => by
    have : dS S.rows = 16 := h16; omega
  | t :: l, b, S, S', hc, he, he', hr, hb, h, h15, h16 => by
    obtain ⟨h1, h2⟩ := parse_e h; have h3 := stp hc.ne he h1; rw [(parse_cons t l S).1 h1] at h16
    by_cases hs : dS (stepP t S).rows ≤ 15
    · obtain ⟨s1, s2⟩ := step_sim (k := k) hK hc he he' (fun h7 => hb (hr.1 h7)) h1 (by
        by_cases ht : tagB t
        · have := (h3.tag ht).1
          exact .inl (by omega)
        · exact .inr ht)
      rw [List.map_cons, (parse_cons _ _ S').1 s1]; exact sim_deep hK hbel l (Ex.ownB t) _ _ s2 h1 s1 hr.2 h3.own h2 hs h16
    · have ht : tagB t := Classical.byContradiction fun hn => by have := h3.no hn; omega
      obtain ⟨a1, a2, a3⟩ := h3.tag ht; have hlen := hc.len; obtain ⟨rows, pl, e⟩ := S; obtain ⟨rows', pl', e'⟩ := S'; simp only at hc he he' hlen a1 a2 a3 h15; subst he he'; obtain ⟨n, r, rfl⟩ := List.exists_cons_of_ne_nil hc.ne
      obtain ⟨n', r', rfl⟩ : ∃ n r, rows' = n :: r := by cases hc <;> exact ⟨_, _, rfl⟩
      simp only [List.length_cons] at hlen a2 a3
      have hdeep : 16 < r'.length + 1 := by omega
      have key : (stepP (Ex.shT k t) ⟨n' :: r', pl', 0⟩).e = 3 ∧ (k : Int) ≤ (stepP (Ex.shT k t) ⟨n' :: r', pl', 0⟩).pl := by
        have ek : (Ex.shT k t).kind = t.kind := rfl; have efr : ((Ex.shT k t).fr : Nat) = t.fr + k := rfl; unfold stepP at h1 ⊢; rw [ek]
        cases k1 : t.kind == 1 with
        | true => have := eq_of_beq k1; unfold tagB at ht; omega
        | false =>
        cases k7 : t.kind == 7 with
        | true => have := eq_of_beq k7; unfold tagB at ht; omega
        | false =>
        rw [k1, k7] at h1; simp only [cond_false] at h1 ⊢
        cases k2 : t.kind == 2 || t.kind == 3 with
        | true =>
          rw [k2] at h1; simp only [cond_true] at h1 ⊢; unfold begP at h1 ⊢; simp only at h1 ⊢
          rw [show (Ex.shT k t).name = t.name from rfl]
          obtain ⟨g1, g2⟩ := beg_ok (elM t.name) t n r ⟨n :: r, pl, 0⟩ rfl
          have hbk : begOk (elM t.name) t n r = true := by
            refine g1.1 ?_
            cases he3 : emptyB (elM t.name) <;> rw [he3] at h1 <;> exact h1
          unfold begOk at hbk; simp only [Bool.and_eq_true] at hbk
          obtain ⟨q1, q2⟩ := beg_deep (elM t.name) (Ex.shT k t) n' r' ⟨n' :: r', pl', 0⟩ rfl (by rw [hc.may hK, ek]; simpa using hbk.1) hdeep
          cases he3 : emptyB (elM t.name) with
          | true =>
            simp only [cond_true]; rw [q1, q2, efr]
            exact ⟨by trivial, by omega⟩
          | false =>
            simp only [cond_false]; rw [q1, q2, efr]
            exact ⟨by trivial, by omega⟩
        | false =>
          rw [k2] at h1
          have k5 : (t.kind == 5) = true := by
            have : ¬(t.kind = 2 ∨ t.kind = 3) := by simpa using k2
            unfold tagB at ht; rw [beq_iff_eq]; omega
          rw [k5] at h1 ⊢; simp only [cond_true, cond_false] at h1 ⊢; unfold hideP at h1 ⊢; simp only at h1 ⊢; rw [hc.may hK]
          cases hm : mayB n.kind (lastN n.kids) 14 with
          | false =>
            rw [hm] at h1; simp only [Bool.not_false, cond_true] at h1; exfalso; have e1 : failP t.fr 13 ⟨n :: r, pl, 0⟩ = ⟨n :: r, t.fr, 13⟩ := rfl; rw [e1] at h1
            cases h2 : decide (16 < r.length + 1) with
            | true => rw [h2] at h1; cases h1
            | false => rw [h2] at h1; cases h1
          | true =>
            simp only [Bool.not_true, cond_false]; rw [decide_eq_true hdeep]; simp only [cond_true]; have e1 : failP ((Ex.shT k t).fr : Nat) 3 ⟨n' :: r', pl', 0⟩ = ⟨n' :: r', ((Ex.shT k t).fr : Nat), 3⟩ := rfl; rw [e1, efr]
            exact ⟨by trivial, by show (k : Int) ≤ ((t.fr + k : Nat) : Int); omega⟩
      rw [List.map_cons, (parse_cons _ _ _).2 (by rw [key.1]; decide)]
      exact key
end
theorem parse_has {s : List UInt8} (h : parseE s = 0) : ∃ (n : Nd) (l : List Ex.Tok) (p : Int), parseN s = n ∧ parseM s = .ok n ∧ Ex.lexM s = .ok l ∧ parseL l page0 = ⟨[n], p, 0⟩ := by
  unfold parseE at h; unfold parseN
  cases hm : parseM s with
  | error x =>
    obtain ⟨p, e⟩ := x; rw [hm] at h; have h : e = 0 := h; subst h; unfold parseM at hm; split at hm
    · cases hm
    · split at hm
      · rename_i p' e' hl
        injection hm with hm
        injection hm with _ he
        exact absurd he (Ex.lexM_e hl)
      · unfold parseT doneT at hm
        cases he : (parseL _ page0).e == 0 with
        | true =>
          rw [he] at hm; simp only [cond_true] at hm; split at hm
          · cases hm
          · injection hm with hm
            injection hm with _ he
            cases he
        | false =>
          rw [he] at hm; simp only [cond_false] at hm
          injection hm with hm
          injection hm with _ he2
          rw [he2] at he; cases he
  | ok n =>
    unfold parseM at hm; split at hm
    · cases hm
    · split at hm
      · cases hm
      · rename_i l hl; unfold parseT doneT at hm
        cases he : (parseL l page0).e == 0 with
        | false => rw [he] at hm; cases hm
        | true =>
          rw [he] at hm; simp only [cond_true] at hm; split at hm
          · rename_i m hr
            injection hm with hm
            subst hm; refine ⟨m, l, (parseL l page0).pl, rfl, rfl, hl, ?_⟩; have he0 := eq_of_beq he; revert hr he0
            cases parseL l page0 with
            | mk rows pl e =>
              intro hr he0; simp only at hr he0; rw [hr, he0]
          · cases hm
theorem parse_ok {s : List UInt8} {l : List Ex.Tok} {n : Nd} {S : Ps} (hs : s.length ≤ 65536) (hl : Ex.lexM s = .ok l) (h : parseL l page0 = S) (he : S.e = 0) (hr : S.rows = [n]) : parseE s = 0 ∧ parseN s = n := by
  have : parseM s = .ok n := by
    unfold parseM
    rw [if_neg (by omega), hl]
    simp only; unfold parseT doneT; rw [h, he, hr]; rfl
  unfold parseE parseN; rw [this]; exact ⟨rfl, rfl⟩
theorem parse_bad {s : List UInt8} {l : List Ex.Tok} {S : Ps} (hs : s.length ≤ 65536) (hl : Ex.lexM s = .ok l) (h : parseL l page0 = S) (he : S.e ≠ 0) : parseE s = S.e ∧ parseA s = S.pl := by
  have : parseM s = .error (S.pl, S.e) := by
    unfold parseM
    rw [if_neg (by omega), hl]
    simp only; unfold parseT doneT; rw [h]
    have : (S.e == 0) = false := by simpa using he
    rw [this]; rfl
  unfold parseE parseA; rw [this]; exact ⟨rfl, rfl⟩
theorem step_open (p : Nat) (n : Nd) (r : List Nd) (pl : Int) (hk : n.kind = 1) (hr : r.length + 1 ≤ 16) : stepP (tO p) ⟨n :: r, pl, 0⟩ = ⟨.mk 13 p [] [] [] :: n :: r, pl, 0⟩ := by
  have e1 : stepP (tO p) ⟨n :: r, pl, 0⟩ = begP (tO p) ⟨n :: r, pl, 0⟩ := rfl; rw [e1]
  have hb : begOk (elM varsS) (tO p) n r = true := by
    unfold begOk; rw [hk, decide_eq_true hr]; rfl
  unfold begP; simp only
  rw [show (tO p).name = varsS from rfl, (beg_ok (elM varsS) (tO p) n r ⟨n :: r, pl, 0⟩ rfl).2 hb]
  rfl
theorem step_close (p : Nat) (n m : Nd) (r : List Nd) (pl : Int) (hk : n.kind = 13) : stepP (tC p) ⟨n :: m :: r, pl, 0⟩ = ⟨addK m n :: r, pl, 0⟩ := by
  have e1 : stepP (tC p) ⟨n :: m :: r, pl, 0⟩ = endP (tC p) ⟨n :: m :: r, pl, 0⟩ := rfl; rw [e1]; unfold endP; simp only
  have : endBad (tC p) n = false := by
    unfold endBad; rw [hk]; rfl
  rw [this]; rfl
end Go.Ai.Sp
end
section
namespace Go.Ai.Sp
open Go.Ai Go.RowKit
theorem ctx_one {K : Int} {K0 bel r' : List Nd} {n : Nd} (h : Ctx K K0 bel r' [n]) : ∃ (n' : Nd) (ks : List Nd), r' = n' :: bel ∧ n'.kind = K ∧ n.kind = 1 ∧ n'.text = [] ∧ n.text = [] ∧ n'.attrs = [] ∧ n.attrs = [] ∧ n'.kids = K0 ++ ks ∧ sames ks n.kids = true := by
  cases h with
  | base a1 a2 a3 a4 a5 a6 a7 a8 => exact ⟨_, _, rfl, a1, a2, a3, a4, a5, a6, a7, a8⟩
  | up _ a2 => exact absurd rfl a2.ne
theorem page_rows : page0.rows = [.mk 1 0 [] [] []] := rfl
theorem dS_one (n : Nd) : dS [n] = n.depth := by
  simp only [dS, List.length_nil]; omega
theorem ps_eq {S : Ps} {R : List Nd} (h1 : S.rows = R) (h2 : S.e = 0) : S = ⟨R, S.pl, 0⟩ := by
  obtain ⟨rows, pl, e⟩ := S; simp only at h1 h2; rw [h1, h2]
theorem parts_law : PartsLaw := by
  intro a b ha hb ea eb; obtain ⟨n, la, pa, hn, hma, hla, hpa⟩ := parse_has ea; obtain ⟨m, lb, pb, hm, hmb, hlb, hpb⟩ := parse_has eb; unfold PartsAt; rw [hn, hm]; have va := vg_raw (Ex.lexM_good hla); have vb := vg_raw (Ex.lexM_good hlb)
  have da : n.depth ≤ 16 := by
    have := (dS_run la page0 (by rw [page_rows]; simp) rfl (by rw [hpa])).2 (by decide)
    rw [hpa] at this; simpa [dS_one] using this
  have db : m.depth ≤ 16 := by
    have := (dS_run lb page0 (by rw [page_rows]; simp) rfl (by rw [hpb])).2 (by decide)
    rw [hpb] at this; simpa [dS_one] using this
  have both : parseE (a ++ (oV ++ cV) ++ b) = 0 ∧ (parseN (a ++ (oV ++ cV) ++ b)).same (.mk 1 0 [] [] (n.kids ++ [.mk 13 0 [] [] []] ++ m.kids)) = true := by
    have hL : (a ++ (oV ++ cV) ++ b).length ≤ 65536 := by
      simp only [List.length_append, oV, cV, List.length_cons, List.length_nil]; omega
    have hlex := lex_parts hla hlb
    obtain ⟨s1, s2⟩ := sim (K := 1) (K0 := []) (bel := []) (k := 0) (.inl rfl) la false page0 page0 (.base (ks := []) rfl rfl rfl rfl rfl rfl rfl rfl) rfl rfl va (fun h => by cases h) (by rw [hpa]) (by rw [hpa, dS_one]; exact da)
    rw [hpa] at s2; obtain ⟨n1, k1, r1, b1, b2, b3, b4, b5, b6, b7, b8⟩ := ctx_one s2; have e1 := ps_eq r1 s1; generalize (parseL (la.map (Ex.shT 0)) page0).pl = p1 at e1
    have e2 : parseL (la.map (Ex.shT 0) ++ tO a.length :: tC (a.length + 10) :: lb.map (Ex.shT (a.length + 21))) page0 = parseL (lb.map (Ex.shT (a.length + 21))) ⟨[addK n1 (.mk 13 a.length [] [] [])], p1, 0⟩ := by
      rw [parse_app _ _ _ rfl s1, e1]
      have h1 := step_open a.length n1 [] p1 b1 (by decide)
      rw [(parse_cons (tO a.length) _ _).1 (by rw [h1]), h1]
      have h2 := step_close (a.length + 10) (.mk 13 a.length [] [] []) n1 [] p1 rfl
      rw [(parse_cons (tC (a.length + 10)) _ _).1 (by rw [h2]), h2]
    obtain ⟨s3, s4⟩ := sim (K := 1) (K0 := n1.kids ++ [.mk 13 a.length [] [] []]) (bel := []) (k := a.length + 21) (.inl rfl) lb false page0 ⟨[addK n1 (.mk 13 a.length [] [] [])], p1, 0⟩ (.base (ks := []) b1 rfl b3 rfl b5 rfl (by rw [List.append_nil]; rfl) rfl) rfl rfl vb (fun h => by cases h) (by rw [hpb]) (by rw [hpb, dS_one]; exact db)
    rw [hpb] at s4; obtain ⟨n3, k3, r3, w1, w2, w3, w4, w5, w6, w7, w8⟩ := ctx_one s4; obtain ⟨g1, g2⟩ := parse_ok hL hlex e2 s3 r3; refine ⟨g1, ?_⟩; rw [g2]
    refine same_iff.2 ⟨w1, w3, by rw [w5]; rfl, ?_⟩
    rw [w7]; refine sames_app2 (sames_app2 ?_ rfl) w8; rw [b7]; exact b8
  have hL : (oV ++ a ++ cV).length ≤ 65536 := by
    simp only [List.length_append, oV, cV, List.length_cons, List.length_nil]; omega
  have hlex := lex_in hla
  have h1 : stepP (tO 0) page0 = ⟨[.mk 13 0 [] [] [], .mk 1 0 [] [] []], 0, 0⟩ := step_open 0 (.mk 1 0 [] [] []) [] 0 rfl (by decide)
  have hc : Ctx 13 [] [.mk 1 0 [] [] []] (Ps.rows ⟨[.mk 13 0 [] [] [], .mk 1 0 [] [] []], 0, 0⟩) page0.rows := .base (ks := []) rfl rfl rfl rfl rfl rfl rfl rfl
  refine ⟨both.1, both.2, fun hd => ?_, fun hd => ?_⟩
  · obtain ⟨s1, s2⟩ := sim_deep (K := 13) (K0 := []) (k := 10) (.inr rfl) rfl la false page0 _ hc rfl rfl va (fun h => by cases h) (by rw [hpa]) (by decide) (by rw [hpa, dS_one]; exact hd)
    have e2 : parseL (tO 0 :: (la.map (Ex.shT 10) ++ [tC (10 + a.length)])) page0 = parseL (la.map (Ex.shT 10)) ⟨[.mk 13 0 [] [] [], .mk 1 0 [] [] []], 0, 0⟩ := by
      rw [(parse_cons (tO 0) _ _).1 (by rw [h1]), h1]
      exact parse_stop _ _ _ (by rw [s1]; decide) rfl
    obtain ⟨g1, g2⟩ := parse_bad hL hlex e2 (by rw [s1]; decide)
    rw [g1, g2]; exact ⟨s1, s2⟩
  · obtain ⟨s1, s2⟩ := sim (K := 13) (K0 := []) (k := 10) (.inr rfl) la false page0 _ hc rfl rfl va (fun h => by cases h) (by rw [hpa]) (by rw [hpa, dS_one]; show n.depth + 1 ≤ 16; omega)
    rw [hpa] at s2; obtain ⟨n4, k4, r4, w1, w2, w3, w4, w5, w6, w7, w8⟩ := ctx_one s2; have e1 := ps_eq r4 s1; generalize (parseL (la.map (Ex.shT 10)) ⟨[.mk 13 0 [] [] [], .mk 1 0 [] [] []], 0, 0⟩).pl = p1 at e1
    have e2 : parseL (tO 0 :: (la.map (Ex.shT 10) ++ [tC (10 + a.length)])) page0 = ⟨[addK (.mk 1 0 [] [] []) n4], p1, 0⟩ := by
      rw [(parse_cons (tO 0) _ _).1 (by rw [h1]), h1, parse_app _ _ _ rfl s1, e1]
      have h2 := step_close (10 + a.length) n4 (.mk 1 0 [] [] []) [] p1 w1
      rw [(parse_cons (tC (10 + a.length)) _ _).1 (by rw [h2]), h2]
      rfl
    obtain ⟨g1, g2⟩ := parse_ok hL hlex e2 rfl rfl; refine ⟨g1, ?_⟩; rw [g2]; refine same_iff.2 ⟨rfl, rfl, rfl, ?_⟩; show sames [n4] [.mk 13 0 [] [] n.kids] = true; simp only [sames, Bool.and_true]
    refine same_iff.2 ⟨w1, w3, by rw [w5]; rfl, ?_⟩
    rw [w7]; exact w8
end Go.Ai.Sp
end
