/-
  Trees out of pieces: contracts of the parser's functions. No statement about the program is made here.
  Trees of nodes, in plain terms: what they are as abstract values, how many nodes, how deep, the same. No statement about the program is made here.
  Which trees are pages, in plain terms; contracts of the functions that look. No statement about the program is made here.
  Which trees are pages, in plain terms. No statement about the program is made here.
  The parser in plain terms: what a page's text is as a tree, or what is wrong and where. No statement about the program is made here.
  The parser in plain terms: what stays while tokens are taken; what tokens are. No statement about the program is made here.
  The parser in plain terms: how great its trees are. No statement about the program is made here.
-/
import Derived.Test.YtopjpnhgnopbiaaDoorJA
import Derived.Test.YtopjpnhgnopbiaaDoorAiSymP
import Derived.Test.YtopjpnhgnopbiaaDoorAiPrims
import Derived.Test.YtopjpnhgnopbiaaDoorAiMono
set_option linter.unusedVariables false
set_option linter.unusedSimpArgs false
set_option linter.unnecessarySimpa false
section
namespace Go.Ai.Sp
open Go.Ai Go.RowKit Go.Ai.Ex
abbrev Row := Nat × List AV
abbrev limS : Nat := 1000000000000
def hP (g : Nat) (rows : List Row) (pl e : Int) : Hp := [.grow 0 3 32, .grow 0 5 28, .mem 28 [.int .i64 0, .int .i64 0, .str [], .sl 3 [] (some 0), .sl 5 [] (some 1)], .grow 0 3 32, .dead, .stk g 28 5 4 28 5 rows, .grow 0 5 28,
  .mem 49 [.ssl 5 g 0 5 rows.length, .int .i64 pl, .int .i64 e]]
def rw' (v0 v1 v2 v3 : AV) (es : List (List AV)) : Row := (es.length, [v0, v1, v2, v3, .sl 5 es none])
def _root_.Keep.okW (rows : List Row) (r : Hp) : Prop := ∀ (n : Nat) (g : Hp), 8 + r.length ≤ n → rows.map (fun x => (x.1, strips n g x.2)) = rows ∧ r.map (stripB n g) = r
def topC : Con := fun vs h K => ∃ (g : Nat) (row : Row) (rows : List Row) (pl e : Int) (r : Hp), Keep.okW (row :: rows) r ∧ (row :: rows).length ≤ limS ∧ vs = [.ptr 7 0] ∧ h = hP g (row :: rows) pl e ++ r ∧ K (.spt 5 g 0 0) h
def fE (p x pl e : Int) : Int × Int := bif e == 0 then (p, x) else (pl, e)
def failC : Con := fun vs h K => ∃ (p x : Int) (g : Nat) (rows : List Row) (pl e : Int) (r : Hp), Keep.okW rows r ∧ vs = [.ptr 7 0, .int .i64 p, .int .i64 x] ∧ h = hP g rows pl e ++ r ∧ K (.tup []) (hP g rows (fE p x pl e).1 (fE p x pl e).2 ++ r)
def lastK (es : List (List AV)) : Int := match es.getLast? with
  | some (.int _ k :: _) => k
  | _ => 0
def kidsOk (es : List (List AV)) : Prop := es.length ≤ limS ∧ ∀ x ∈ es, ∃ k v1 v2 v3 v4, x = [AV.int .i64 k, v1, v2, v3, v4]
def lastC : Con := fun vs h K => ∃ (g : Nat) (v0 v1 v2 v3 : AV) (es : List (List AV)) (rows : List Row) (pl e : Int) (r : Hp), Keep.okW (rw' v0 v1 v2 v3 es :: rows) r ∧ (rw' v0 v1 v2 v3 es :: rows).length ≤ limS ∧ kidsOk es ∧
  vs = [.ptr 7 0] ∧ h = hP g (rw' v0 v1 v2 v3 es :: rows) pl e ++ r ∧ K (.int .i64 (lastK es)) h
def mayB (k l x : Int) : Bool := bif k == 7 then (x == 8 && l == 0) || (x == 9 && l == 8) else bif k == 10 then (x == 11 && l != 12) || (x == 12 && l == 11) else !(x == 8 || x == 9 || x == 11 || x == 12)
def mayC : Con := fun vs h K => ∃ (g : Nat) (k x : Int) (v1 v2 v3 : AV) (es : List (List AV)) (rows : List Row) (pl e : Int) (r : Hp), Keep.okW (rw' (.int .i64 k) v1 v2 v3 es :: rows) r ∧ (rw' (.int .i64 k) v1 v2 v3 es :: rows).length ≤ limS ∧ kidsOk es ∧
  vs = [.ptr 7 0, .int .i64 x] ∧ h = hP g (rw' (.int .i64 k) v1 v2 v3 es :: rows) pl e ++ r ∧ K (.bool (mayB k (lastK es) x)) h
def inNC : Con := fun vs h K => ∃ (l : List Int) (x : Int), vs = [.sl 1 (l.map fun n => [.int .i64 n]) none, .int .i64 x] ∧ l.length ≤ limS ∧ K (.bool (l.any (· == x))) h
def inNIC : Con := fun vs h K => ∃ (l : List Int) (x : Int), vs = [.sl 1 (l.map fun n => [.int .i64 n]) none, .int .i64 x] ∧ l.length ≤ limS ∧ ∀ z : Int, decide (z ≥ 0) = (l.any (· == x)) → K (.int .i64 z) h
def inC : Con := fun vs h K => ∃ (l : List (List UInt8)) (x : List UInt8), vs = [.sl 1 (l.map fun n => [.str n]) none, .str x] ∧ l.length ≤ limS ∧ K (.bool (l.any (· == x))) h
def inIC : Con := fun vs h K => ∃ (l : List (List UInt8)) (x : List UInt8), vs = [.sl 1 (l.map fun n => [.str n]) none, .str x] ∧ l.length ≤ limS ∧ ∀ z : Int, decide (z ≥ 0) = (l.any (· == x)) → K (.int .i64 z) h
structure El where
  kind : Int
  names : List (List UInt8)
  must : Nat
def elM (s : List UInt8) : El :=
  bif s == [105, 110, 99, 108, 117, 100, 101] then ⟨3, [[115, 114, 99], [97, 108, 116], [111, 110, 101, 114, 114, 111, 114]], 1⟩ else
  bif s == [105, 110, 108, 105, 110, 101] then ⟨4, [[110, 97, 109, 101], [102, 101, 116, 99, 104, 97, 98, 108, 101]], 1⟩ else
  bif s == [114, 101, 109, 111, 118, 101] then ⟨5, [], 0⟩ else
  bif s == [99, 111, 109, 109, 101, 110, 116] then ⟨6, [[116, 101, 120, 116]], 1⟩ else
  bif s == [116, 114, 121] then ⟨7, [], 0⟩ else
  bif s == [97, 116, 116, 101, 109, 112, 116] then ⟨8, [], 0⟩ else
  bif s == [101, 120, 99, 101, 112, 116] then ⟨9, [], 0⟩ else
  bif s == [99, 104, 111, 111, 115, 101] then ⟨10, [], 0⟩ else
  bif s == [119, 104, 101, 110] then ⟨11, [[116, 101, 115, 116]], 1⟩ else
  bif s == [111, 116, 104, 101, 114, 119, 105, 115, 101] then ⟨12, [], 0⟩ else ⟨13, [], 0⟩
def encE (x : El) : List AV := [.int .i64 x.kind, .sl 1 (x.names.map fun n => [.str n]) none, .int .i64 (x.must : Nat)]
def ofC : Con := fun vs h K => ∃ s : List UInt8, vs = [.str s] ∧ K (.agg (encE (elM s))) h
def valM (x y : List UInt8) : Bool :=
  bif x == [111, 110, 101, 114, 114, 111, 114] then y == [99, 111, 110, 116, 105, 110, 117, 101] else
  bif x == [102, 101, 116, 99, 104, 97, 98, 108, 101] then y == [121, 101, 115] || y == [110, 111] else
  bif x == [116, 101, 120, 116] then true else !(y == [])
def valC : Con := fun vs h K => ∃ x y : List UInt8, vs = [.str x, .str y] ∧ K (.bool (valM x y)) h
def nodeV (k a : Int) (t : List UInt8) (aa : List (List AV)) (oa : Option Nat) (ks : List (List AV)) (ow : Option Nat) : List AV := [.int .i64 k, .int .i64 a, .str t, .sl 3 aa oa, .sl 5 ks ow]
def addC (m : Nat) : Con := fun vs h K => ∃ (g : Nat) (v0 v1 v2 v3 : AV) (es : List (List AV)) (rows : List Row) (pl e : Int) (r : Hp) (nk na : Int) (nt : List UInt8) (aa : List (List AV)) (oa : Option Nat) (ks : List (List AV)) (ow : Option Nat),
  Keep.okW (rw' v0 v1 v2 v3 es :: rows) r ∧ (rw' v0 v1 v2 v3 es :: rows).length ≤ limS ∧ es.length < limS ∧ (∀ n g, 8 + m ≤ n → strips n g (nodeV nk na nt aa oa ks ow) = nodeV nk na nt aa oa ks ow) ∧ r.length = m ∧
  vs = [.ptr 7 0, .agg (nodeV nk na nt aa oa ks ow)] ∧ h = hP g (rw' v0 v1 v2 v3 es :: rows) pl e ++ r ∧ K (.tup []) (hP g (rw' v0 v1 v2 v3 (es ++ [nodeV nk na nt aa oa ks ow]) :: rows) pl e ++ r)
def attrsM (x : El) (fr : Int) (l : List Att) (s : Int × Int) : Int × Int :=
  l.foldl (fun s a => bif !(x.names.any (· == a.name)) || !valM a.name a.value then fE a.at' 12 s.1 s.2 else s) ((x.names.take x.must).foldl (fun s nm => bif !(l.any fun a => a.name == nm) then fE fr 12 s.1 s.2 else s) s)
def tkB (tk fr to : Int) (nm tx : List UInt8) (aa : List (List AV)) : List AV := [.int .i64 tk, .str nm, .sl 3 aa none, .str tx, .int .i64 fr, .int .i64 to]
def begH (t : List AV) (x : El) : Hp := [.grow 0 3 32, .mem 53 t, .mem 53 t, .grow 0 1 9, .mem 89 (encE x)]
def _root_.Keep.okR (rows : List Row) : Prop := ∀ r ∈ rows, ∀ n, 4 ≤ n → lowVs n r.2 = true
def attrsC : Con := fun vs h K => ∃ (g : Nat) (rows : List Row) (pl e : Int) (x : El) (tk fr to : Int) (nm tx : List UInt8) (l : List Att), Keep.okR rows ∧ x.must ≤ x.names.length ∧ x.names.length ≤ limS ∧ l.length ≤ limS ∧
  vs = [.ptr 7 0, .agg (encE x), .agg (tkB tk fr to nm tx (encAs l))] ∧ h = hP g rows pl e ++ begH (tkB tk fr to nm tx (encAs l)) x ∧ K (.tup []) (hP g rows (attrsM x fr l (pl, e)).1 (attrsM x fr l (pl, e)).2 ++ begH (tkB tk fr to nm tx (encAs l)) x)
def hasNC : Con := fun vs h K => ∃ (g : Nat) (rows : List Row) (pl e : Int) (b0 b1 b2 b3 b4 b5 b6 : Blk) (wd an av : List UInt8) (ap : Int), Keep.okW rows [b0, b1, b2, b3, b4, b5, b6, .mem 9 [.str wd]] ∧
  vs = [.agg [.str an, .str av, .int .i64 ap], .ptr 15 0] ∧ h = hP g rows pl e ++ [b0, b1, b2, b3, b4, b5, b6, .mem 9 [.str wd]] ∧ K (.bool (an == wd)) h
def hasIC : Con := fun vs h K => ∃ (g : Nat) (rows : List Row) (pl e : Int) (b0 b1 b2 b3 b4 b5 b6 : Blk) (wd : List UInt8) (l : List Att), Keep.okW rows [b0, b1, b2, b3, b4, b5, b6, .mem 9 [.str wd]] ∧ l.length ≤ limS ∧
  vs = [.sl 3 (encAs l) none, .fn (.func 71) [] [.ptr 15 0]] ∧ h = hP g rows pl e ++ [b0, b1, b2, b3, b4, b5, b6, .mem 9 [.str wd]] ∧ ∀ z : Int, decide (z ≥ 0) = (l.any fun a => a.name == wd) → K (.int .i64 z) h
def hasAC : Con := fun vs h K => ∃ (g : Nat) (rows : List Row) (pl e : Int) (b0 b1 b2 b3 b4 b5 b6 : Blk) (wd : List UInt8) (l : List Att), Keep.okW rows [b0, b1, b2, b3, b4, b5, b6, .mem 9 [.str wd]] ∧ l.length ≤ limS ∧
  vs = [.sl 3 (encAs l) none, .fn (.func 71) [] [.ptr 15 0]] ∧ h = hP g rows pl e ++ [b0, b1, b2, b3, b4, b5, b6, .mem 9 [.str wd]] ∧ K (.bool (l.any fun a => a.name == wd)) h
def trimM (s : List UInt8) : List UInt8 := s.dropWhile blB
def trimC : Con := fun vs h K => ∃ s : List UInt8, s.length ≤ limS ∧ vs = [.str s, .str [32, 9, 10, 13]] ∧ K (.str (trimM s)) h
def failW (g : Nat) (rows : List Row) (r : Hp) : Con := fun vs h K => ∃ (p x : Int) (pl e : Int), vs = [.ptr 7 0, .int .i64 p, .int .i64 x] ∧ h = hP g rows pl e ++ r ∧ K (.tup []) (hP g rows (fE p x pl e).1 (fE p x pl e).2 ++ r)
def failN (g : Nat) (rows : List Row) (b0 b1 b2 b3 b4 b5 b6 : Blk) : Con := fun vs h K => ∃ (p x : Int) (pl e : Int) (w : List UInt8), vs = [.ptr 7 0, .int .i64 p, .int .i64 x] ∧ h = hP g rows pl e ++ [b0, b1, b2, b3, b4, b5, b6, .mem 9 [.str w]] ∧
  K (.tup []) (hP g rows (fE p x pl e).1 (fE p x pl e).2 ++ [b0, b1, b2, b3, b4, b5, b6, .mem 9 [.str w]])
def failA (g : Nat) (rows : List Row) (b0 b1 b2 b3 b4 b5 b6 : Blk) : Con := fun vs h K => ∃ (p x : Int) (pl e : Int) (w v : List UInt8) (q : Int), vs = [.ptr 7 0, .int .i64 p, .int .i64 x] ∧ h = hP g rows pl e ++ [b0, b1, b2, b3, b4, b5, b6, .mem 32 [.str w, .str v, .int .i64 q]] ∧
  K (.tup []) (hP g rows (fE p x pl e).1 (fE p x pl e).2 ++ [b0, b1, b2, b3, b4, b5, b6, .mem 32 [.str w, .str v, .int .i64 q]])
def ofW (s : List UInt8) : Con := fun vs h K => vs = [.str s] ∧ K (.agg (encE (elM s))) h
def begX (b0 b1 : Blk) (t : List AV) (x : El) : Hp := [b0, b1, .mem 53 t, .grow 0 1 9, .mem 89 (encE x)]
def attrsV (g : Nat) (rows : List Row) (x : El) (tk fr to : Int) (nm tx : List UInt8) (l : List Att) : Con := fun vs h K => ∃ (pl e : Int), vs = [.ptr 7 0, .agg (encE x), .agg (tkB tk fr to nm tx (encAs l))] ∧
  h = hP g rows pl e ++ begH (tkB tk fr to nm tx (encAs l)) x ∧ K (.tup []) (hP g rows (attrsM x fr l (pl, e)).1 (attrsM x fr l (pl, e)).2 ++ begH (tkB tk fr to nm tx (encAs l)) x)
end Go.Ai.Sp
end
section
namespace Go.Ai
open Go.RowKit
structure Att where
  name : List UInt8
  value : List UInt8
  pl : Int
inductive Nd where
  | mk (kind pl : Int) (text : List UInt8) (attrs : List Att) (kids : List Nd)
  deriving Inhabited
def Nd.kind : Nd → Int | .mk k _ _ _ _ => k
def Nd.pl : Nd → Int | .mk _ p _ _ _ => p
def Nd.text : Nd → List UInt8 | .mk _ _ t _ _ => t
def Nd.attrs : Nd → List Att | .mk _ _ _ a _ => a
def Nd.kids : Nd → List Nd | .mk _ _ _ _ l => l
def encA (a : Att) : List AV := [.str a.name, .str a.value, .int .i64 a.pl]
mutual
def encN : Nd → List AV
  | .mk k p t al ks => [.int .i64 k, .int .i64 p, .str t, .sl 3 (al.map encA) none, .sl 5 (encNs ks) none]
def encNs : List Nd → List (List AV)
  | [] => []
  | n :: r => encN n :: encNs r
end
theorem encNs_map : ∀ l : List Nd, encNs l = l.map encN
  | [] => rfl
  | n :: r => by rw [encNs, encNs_map r]; rfl
mutual
def Nd.size : Nd → Nat
  | .mk _ _ _ _ ks => 1 + sizes ks
def sizes : List Nd → Nat
  | [] => 0
  | n :: r => n.size + sizes r
end
mutual
def Nd.depth : Nd → Nat
  | .mk _ _ _ _ ks => depths ks
def depths : List Nd → Nat
  | [] => 0
  | n :: r => max (n.depth + if n.kind = 2 then 0 else 1) (depths r)
end
mutual
theorem pure_encN : ∀ n : Nd, pureV.pureVs (encN n) = true
  | .mk k p t al ks => by
    simp only [encN, pureV.pureVs, pureV, Option.isNone_none, Bool.true_and, Bool.and_true, Bool.and_eq_true]; refine ⟨?_, pure_encNs ks⟩
    induction al with
    | nil => rfl
    | cons a r ih => simp only [List.map_cons, pureV.pureVss, encA, pureV.pureVs, pureV, ih, Bool.true_and]
theorem pure_encNs : ∀ l : List Nd, pureV.pureVss (encNs l) = true
  | [] => rfl
  | n :: r => by simp only [encNs, pureV.pureVss, pure_encN n, pure_encNs r, Bool.true_and]
end
theorem pure_encAs (l : List Att) : pureV.pureVss (l.map encA) = true := by
  induction l with
  | nil => rfl
  | cons a r ih => simp only [List.map_cons, pureV.pureVss, encA, pureV.pureVs, pureV, ih, Bool.true_and]
mutual
theorem low_pure (n : Nat) : ∀ v, pureV v = true → lowV n v = true
  | .top, _ => rfl
  | .bool _, _ => rfl
  | .int _ _, _ => rfl
  | .str _, _ => rfl
  | .nilp, _ => rfl
  | .ptr _ _, hp => by simp [pureV] at hp
  | .ro cs, hp => by rw [lowV]; exact lows_pure n cs (by simpa [pureV] using hp)
  | .sl sz es own, hp => by
    simp only [pureV, Bool.and_eq_true] at hp
    cases own with
    | none => simp only [lowV, lowss_pure n es hp.2, Bool.and_true]
    | some _ => simp at hp
  | .osl _ _ _ _, hp => by simp [pureV] at hp
  | .mpv _ vs, hp => by first | (simp [pureV] at hp; done) | (rw [lowV]; exact lowss_pure n vs (by simpa [pureV] using hp))
  | .fn f a c, hp => by
    simp only [pureV, Bool.and_eq_true] at hp; rw [lowV, lows_pure n a hp.1, lows_pure n c hp.2]; rfl
  | .nilf, _ => rfl
  | .dfr cs, hp => by first | (simp [pureV] at hp; done) | (rw [lowV]; exact lows_pure n cs (by simpa [pureV] using hp))
  | .iface t v, hp => by rw [lowV]; exact low_pure n v (by simpa [pureV] using hp)
  | .nili, _ => rfl
  | .agg cs, hp => by rw [lowV]; exact lows_pure n cs (by simpa [pureV] using hp)
  | .tup cs, hp => by rw [lowV]; exact lows_pure n cs (by simpa [pureV] using hp)
theorem lows_pure (n : Nat) : ∀ xs, pureV.pureVs xs = true → lowVs n xs = true
  | [], _ => rfl
  | x :: xs, hp => by
    simp only [pureV.pureVs, Bool.and_eq_true] at hp; rw [lowVs, low_pure n x hp.1, lows_pure n xs hp.2]; rfl
theorem lowss_pure (n : Nat) : ∀ xs, pureV.pureVss xs = true → lowVss n xs = true
  | [], _ => rfl
  | x :: xs, hp => by
    simp only [pureV.pureVss, Bool.and_eq_true] at hp; rw [lowVss, lows_pure n x hp.1, lowss_pure n xs hp.2]; rfl
end
theorem getE_map {α : Type} (f : α → List AV) (l : List α) {i : Nat} (h : i < l.length) : getE (l.map f) (i : Int) = f l[i] := by
  unfold getE; simp [h]
mutual
theorem Nd.depth_le : ∀ n : Nd, n.depth < n.size
  | .mk _ _ _ _ ks => by
    simp only [Nd.depth, Nd.size]; have := depths_le ks; omega
theorem depths_le : ∀ l : List Nd, depths l ≤ sizes l
  | [] => Nat.le_refl _
  | n :: r => by
    simp only [depths, sizes]; have h1 := n.depth_le; have h2 := depths_le r
    split <;> omega
end
theorem sizes_append : ∀ a b : List Nd, sizes (a ++ b) = sizes a + sizes b
  | [], b => by simp [sizes]
  | n :: r, b => by simp only [List.cons_append, sizes, sizes_append r b]; omega
theorem sizes_mem {l : List Nd} {n : Nd} (h : n ∈ l) : n.size ≤ sizes l := by
  induction l with
  | nil => cases h
  | cons m r ih =>
    simp only [sizes]
    rcases List.mem_cons.1 h with rfl | h
    · omega
    · have := ih h; omega
theorem sizes_len : ∀ l : List Nd, l.length ≤ sizes l
  | [] => Nat.le_refl _
  | n :: r => by
    simp only [List.length_cons, sizes]; have h1 := n.depth_le; have h2 := sizes_len r; omega
theorem getE_pre {α : Type} (f : α → List AV) (pre : List α) (x : α) (r : List α) : getE ((pre ++ x :: r).map f) (pre.length : Int) = f x := by
  unfold getE; simp
theorem getE_encNs (pre : List Nd) (x : Nd) (r : List Nd) : getE (encNs (pre ++ x :: r)) (pre.length : Int) = encN x := by
  rw [encNs_map]; exact getE_pre _ _ _ _
theorem encNs_length (l : List Nd) : (encNs l).length = l.length := by rw [encNs_map]; simp
theorem stripss_encAs (l : List Att) : stripss 0 [] (l.map encA) = l.map encA := stripss_pure _ _ _ (pure_encAs l)
theorem stripss_encNs (l : List Nd) : stripss 0 [] (encNs l) = encNs l := stripss_pure _ _ _ (pure_encNs l)
theorem low_encAs (n : Nat) (l : List Att) : lowVss n (l.map encA) = true := lowss_pure n _ (pure_encAs l)
theorem low_encNs (n : Nat) (l : List Nd) : lowVss n (encNs l) = true := lowss_pure n _ (pure_encNs l)
def lim : Nat := 9223372036854775807
def Att.fit (a : Att) : Prop := a.name.length ≤ lim ∧ a.value.length ≤ lim
mutual
def Nd.fit : Nd → Prop
  | .mk _ _ t al ks => t.length ≤ lim ∧ al.length ≤ lim ∧ (∀ a ∈ al, a.fit) ∧ ks.length ≤ lim ∧ fits ks
def fits : List Nd → Prop
  | [] => True
  | n :: r => n.fit ∧ fits r
end
def alike (a b : Att) : Bool := a.name == b.name && a.value == b.value
def alikes : List Att → List Att → Bool
  | [], [] => true
  | a :: r, b :: s => alike a b && alikes r s
  | _, _ => false
mutual
def Nd.same : Nd → Nd → Bool
  | .mk k _ t al ks, n => k == n.kind && t == n.text && alikes al n.attrs && sames ks n.kids
def sames : List Nd → List Nd → Bool
  | [], [] => true
  | a :: r, b :: s => a.same b && sames r s
  | _, _ => false
end
def sameC (N : Nat) : Con := fun vs h K => ∃ a b : Nd, a.size < N ∧ a.fit ∧ b.fit ∧ vs = [.agg (encN a), .agg (encN b)] ∧ K (.bool (a.same b)) h
def samesC (k N : Nat) : Con := fun vs h K => ∃ al bl : List Nd, sizes al < N ∧ fits al ∧ fits bl ∧ al.length ≤ lim ∧ bl.length ≤ lim ∧ vs = [.sl 5 (encNs al) none, .sl 5 (encNs bl) none, .fn (.func k) [] []] ∧ K (.bool (sames al bl)) h
def alikeC : Con := fun vs h K => ∃ a b : Att, vs = [.agg (encA a), .agg (encA b)] ∧ K (.bool (alike a b)) h
def alikesC (k : Nat) : Con := fun vs h K => ∃ al bl : List Att, al.length ≤ lim ∧ bl.length ≤ lim ∧ vs = [.sl 3 (al.map encA) none, .sl 3 (bl.map encA) none, .fn (.func k) [] []] ∧ K (.bool (alikes al bl)) h
theorem encN_eq (n : Nd) : encN n = [.int .i64 n.kind, .int .i64 n.pl, .str n.text, .sl 3 (n.attrs.map encA) none, .sl 5 (encNs n.kids) none] := by
  obtain ⟨k, p, t, al, ks⟩ := n; rfl
theorem Nd.size_eq (n : Nd) : n.size = 1 + sizes n.kids := by
  obtain ⟨k, p, t, al, ks⟩ := n; rfl
theorem Nd.fit_eq (n : Nd) : n.fit = (n.text.length ≤ lim ∧ n.attrs.length ≤ lim ∧ (∀ a ∈ n.attrs, a.fit) ∧ n.kids.length ≤ lim ∧ fits n.kids) := by
  obtain ⟨k, p, t, al, ks⟩ := n; rfl
theorem Nd.same_eq (a b : Nd) : a.same b = (a.kind == b.kind && a.text == b.text && alikes a.attrs b.attrs && sames a.kids b.kids) := by
  obtain ⟨k, p, t, al, ks⟩ := a; rfl
end Go.Ai
end
section
namespace Go.Ai
open Go.RowKit
def encT (l : List (List UInt8)) : List (List AV) := l.map fun x => [.str x]
inductive May where
  | full
  | one (l : List (List UInt8))
  | any
structure Rul where
  name : List UInt8
  must : Bool
  may : May
def May.ok : May → List UInt8 → Bool
  | .full, v => !(v == [])
  | .one l, v => l.any fun x => v == x
  | .any, _ => true
def May.enc : May → AV
  | .full => .fn (.func 39) [] []
  | .one l => .fn (.func 40) [.sl 1 (encT l) none] []
  | .any => .fn (.func 41) [] []
end Go.Ai
end
section
namespace Go.Ai
open Go.RowKit
end Go.Ai
end
section
namespace Go.Ai.Sp
open Go.Ai Go.RowKit
def toA (a : Ex.Att) : Go.Ai.Att := ⟨a.name, a.value, (a.at' : Nat)⟩
def nd0 : Nd := .mk 0 0 [] [] []
def addK (n k : Nd) : Nd := .mk n.kind n.pl n.text n.attrs (n.kids ++ [k])
def rowO (o : Option Nat) (n : Nd) : Row := rw' (.int .i64 n.kind) (.int .i64 n.pl) (.str n.text) (.sl 3 (n.attrs.map Go.Ai.encA) o) (encNs n.kids)
def ownP : List Nd → Option Nat
  | [] => some 3
  | _ => none
def rowsP : List Nd → List Row
  | [] => []
  | n :: r => rowO (ownP r) n :: rowsP r
def lastN (l : List Nd) : Int := match l.getLast? with
  | some n => n.kind
  | none => 0
structure Ps where
  rows : List Nd
  pl : Int
  e : Int
def failP (p x : Int) (s : Ps) : Ps := ⟨s.rows, (fE p x s.pl s.e).1, (fE p x s.pl s.e).2⟩
def textP (t : Ex.Tok) (s : Ps) : Ps := match s.rows with
  | [] => s
  | n :: r => bif n.kind == 7 || n.kind == 10 then (bif (trimM t.text).isEmpty then s else failP ((t.to : Int) - (trimM t.text).length) 13 s) else ⟨addK n (.mk 2 t.fr t.text [] []) :: r, s.pl, s.e⟩
def rawP (t : Ex.Tok) (s : Ps) : Ps := match s.rows with
  | [] => s
  | n :: r => ⟨.mk n.kind n.pl t.text n.attrs n.kids :: r, s.pl, s.e⟩
def emptyB (x : El) : Bool := x.kind == 3 || x.kind == 6
def begFail (x : El) (t : Ex.Tok) (n : Nd) (r : List Nd) (s : Ps) : Ps :=
  let s1 := bif (emptyB x != (t.kind == 3)) || !mayB n.kind (lastN n.kids) x.kind then failP t.fr 13 s else s
  let s2 := bif decide (16 < r.length + 1) then failP t.fr 3 s1 else s1
  ⟨s2.rows, (attrsM x t.fr t.attrs (s2.pl, s2.e)).1, (attrsM x t.fr t.attrs (s2.pl, s2.e)).2⟩
def begP (t : Ex.Tok) (s : Ps) : Ps := match s.rows with
  | [] => s
  | n :: r =>
    let x := elM t.name
    let s2 := begFail x t n r s
    bif emptyB x then ⟨addK n (.mk x.kind t.fr [] (t.attrs.map toA) []) :: r, s2.pl, s2.e⟩ else ⟨.mk x.kind t.fr [] (t.attrs.map toA) [] :: n :: r, s2.pl, s2.e⟩
def hideP (t : Ex.Tok) (s : Ps) : Ps := match s.rows with
  | [] => s
  | n :: r =>
    let s1 := bif !mayB n.kind (lastN n.kids) 14 then failP t.fr 13 s else s
    let s2 := bif decide (16 < r.length + 1) then failP t.fr 3 s1 else s1
    ⟨.mk 14 t.fr [] [] [] :: n :: r, s2.pl, s2.e⟩
def endK (t : Ex.Tok) : Int := bif t.kind == 4 then (elM t.name).kind else 14
def endBad (t : Ex.Tok) (n : Nd) : Bool := !(n.kind == endK t) || ((endK t == 7 && !(lastN n.kids == 9)) || (endK t == 10 && lastN n.kids == 0))
def endP (t : Ex.Tok) (s : Ps) : Ps := match s.rows with
  | [] => s
  | n :: r => bif endBad t n then failP t.fr 13 s else match r with
    | [] => s
    | m :: q => ⟨addK m n :: q, s.pl, s.e⟩
def stepP (t : Ex.Tok) (s : Ps) : Ps :=
  bif t.kind == 1 then textP t s else bif t.kind == 7 then rawP t s else bif t.kind == 2 || t.kind == 3 then begP t s else bif t.kind == 5 then hideP t s else endP t s
def parseL : List Ex.Tok → Ps → Ps
  | [], s => s
  | t :: l, s => bif (stepP t s).e == 0 then parseL l (stepP t s) else stepP t s
def page0 : Ps := ⟨[.mk 1 0 [] [] []], 0, 0⟩
def doneT (len : Int) (s : Ps) : Except (Int × Int) Nd :=
  bif s.e == 0 then (match s.rows with
    | [n] => .ok n
    | _ => .error (len, 14)) else .error (s.pl, s.e)
def parseT (len : Int) (l : List Ex.Tok) : Except (Int × Int) Nd := doneT len (parseL l page0)
def parseM (s : List UInt8) : Except (Int × Int) Nd :=
  if 65536 < s.length then .error (65536, 3) else
  match Ex.lexM s with
  | .error (p, e) => .error ((p : Nat), e)
  | .ok l => parseT s.length l
end Go.Ai.Sp
namespace Go.Ai.Sp
def tokB (t : Ex.Tok) : Prop := t.text.length ≤ limS ∧ t.to ≤ limS ∧ t.fr ≤ limS ∧ t.attrs.length ≤ limS ∧ t.to ≥ t.text.length
def smallR (l : List Nd) : Prop := l.length < limS ∧ ∀ n ∈ l, n.kids.length < limS
def tokH (t : Ex.Tok) : Hp := [.grow 0 3 32, .mem 53 (Ex.encT t)]
def stepC (M : Ex.Tok → Ps → Ps) (pre : Ex.Tok → Ps → Prop) : Con := fun vs h K => ∃ (g : Nat) (s : Ps) (t : Ex.Tok), s.rows ≠ [] ∧ smallR s.rows ∧ tokB t ∧ pre t s ∧ vs = [.ptr 7 0, .agg (Ex.encT t)] ∧ h = hP g (rowsP s.rows) s.pl s.e ++ tokH t ∧
  ∀ g' : Nat, K (.tup []) (hP g' (rowsP (M t s).rows) (M t s).pl (M t s).e ++ tokH t)
def stepsV : AV := .mpv [1, 7, 2, 3, 5, 4, 6] [[.fn (.func 26) [] []], [.fn (.func 27) [] []], [.fn (.func 28) [] []], [.fn (.func 28) [] []], [.fn (.func 29) [] []], [.fn (.func 30) [] []], [.fn (.func 30) [] []]]
def stepsC : Con := fun vs h K => vs.isEmpty = true ∧ K stepsV h
def noPre (_ : Ex.Tok) (_ : Ps) : Prop := True
def onePage (s : Ps) : Prop := ∀ n, s.rows = [n] → n.kind = 1
def onePre (_ : Ex.Tok) (s : Ps) : Prop := onePage s
def parseC : Con := fun vs h K => ∃ s : List UInt8, vs = [.str s] ∧ (∀ n, parseM s = .ok n → K (.tup [.agg (encN n), .int .i64 0, .int .i64 0]) h) ∧
  (∀ p e, parseM s = .error (p, e) → ∀ z1 z2 : Nat, (z1 = 3 ∧ z2 = 5) ∨ (z1 = 0 ∧ z2 = 0) → K (.tup [.agg [.int .i64 0, .int .i64 0, .str [], .sl z1 [] none, .sl z2 [] none], .int .i64 p, .int .i64 e]) h)
mutual
def kindsN : Nd → List UInt8
  | .mk k _ _ _ ks => bif ks.isEmpty then [UInt8.ofNat (97 + k.tmod 26).toNat] else [UInt8.ofNat (97 + k.tmod 26).toNat, 40] ++ kindsNs ks ++ [41]
def kindsNs : List Nd → List UInt8
  | [] => []
  | n :: r => kindsN n ++ kindsNs r
end
def kindsC (N : Nat) : Con := fun vs h K => ∃ nd : Nd, nd.size < N ∧ vs = [.agg (encN nd)] ∧ K (.str (kindsN nd)) h
def parseV : Except (Int × Int) Nd → Nd × Int × Int
  | .ok n => (n, 0, 0)
  | .error (p, e) => (nd0, p, e)
def parseN (s : List UInt8) : Nd := (parseV (parseM s)).1
def parseA (s : List UInt8) : Int := (parseV (parseM s)).2.1
def parseE (s : List UInt8) : Int := (parseV (parseM s)).2.2
def parse3C : Con := fun vs h K => ∃ s : List UInt8, vs = [.str s] ∧
  K (.tup [.agg [.int .i64 (parseN s).kind, .int .i64 (parseN s).pl, .str (parseN s).text, .sl 3 ((parseN s).attrs.map Go.Ai.encA) none, .sl 5 (encNs (parseN s).kids) none], .int .i64 (parseA s), .int .i64 (parseE s)]) h
end Go.Ai.Sp
end
section
namespace Go.Ai.Sp
open Go.Ai Go.RowKit
def Bot : List Nd → Prop
  | [] => False
  | [n] => n.kind = 1
  | _ :: r => Bot r
theorem Bot.ne {l : List Nd} (h : Bot l) : l ≠ [] := by
  rintro rfl
  exact h
theorem Bot.push {l : List Nd} (h : Bot l) (n : Nd) : Bot (n :: l) := by
  cases l with
  | nil => exact h.elim
  | cons => exact h
theorem Bot.same {n m : Nd} {l : List Nd} (h : Bot (n :: l)) (e : m.kind = n.kind) : Bot (m :: l) := by
  cases l with
  | nil => exact e.trans h
  | cons => exact h
theorem Bot.pop {n m : Nd} {l : List Nd} (h : Bot (n :: m :: l)) : Bot (m :: l) := h
structure Inv (i : Nat) (l : List Nd) : Prop where
  bot : Bot l
  len : l.length ≤ i + 1
  kids : ∀ n ∈ l, n.kids.length ≤ i
theorem kind_addK (n k : Nd) : (addK n k).kind = n.kind := rfl
theorem kids_addK (n k : Nd) : (addK n k).kids = n.kids ++ [k] := rfl
theorem Inv.up {i : Nat} {l : List Nd} (h : Inv i l) : Inv (i + 1) l := ⟨h.bot, by have := h.len; omega, fun n hn => by have := h.kids n hn; omega⟩
theorem Inv.add {i : Nat} {n : Nd} {l : List Nd} (h : Inv i (n :: l)) (k : Nd) : Inv (i + 1) (addK n k :: l) := by
  refine ⟨h.bot.same (kind_addK n k), by have := h.len; simp only [List.length_cons] at this ⊢; omega, fun m hm => ?_⟩
  rcases List.mem_cons.1 hm with rfl | hm
  · have := h.kids n (by simp)
    rw [kids_addK, List.length_append]; simp only [List.length_cons, List.length_nil]; omega
  · have := h.kids m (List.mem_cons_of_mem _ hm); omega
theorem Inv.push {i : Nat} {l : List Nd} (h : Inv i l) {n : Nd} (hn : n.kids = []) : Inv (i + 1) (n :: l) := by
  refine ⟨h.bot.push n, by have := h.len; simp only [List.length_cons]; omega, fun m hm => ?_⟩
  rcases List.mem_cons.1 hm with rfl | hm
  · rw [hn]; simp
  · have := h.kids m hm; omega
theorem Inv.same {i : Nat} {n m : Nd} {l : List Nd} (h : Inv i (n :: l)) (e : m.kind = n.kind) (e2 : m.kids = n.kids) : Inv (i + 1) (m :: l) := by
  refine ⟨h.bot.same e, by have := h.len; simp only [List.length_cons] at this ⊢; omega, fun x hx => ?_⟩
  rcases List.mem_cons.1 hx with rfl | hx
  · rw [e2]; have := h.kids n (by simp); omega
  · have := h.kids x (List.mem_cons_of_mem _ hx); omega
theorem Inv.pop {i : Nat} {n m : Nd} {l : List Nd} (h : Inv i (n :: m :: l)) : Inv i (m :: l) :=
  ⟨h.bot.pop, by have := h.len; simp only [List.length_cons] at this ⊢; omega, fun x hx => h.kids x (List.mem_cons_of_mem _ hx)⟩
theorem inv_step {i : Nat} {s : Ps} (h : Inv i s.rows) (t : Ex.Tok) : Inv (i + 1) (stepP t s).rows := by
  obtain ⟨rows, pl, e⟩ := s
  cases rows with
  | nil => exact (h.bot).elim
  | cons n r =>
    unfold stepP
    cases t.kind == 1 with
    | true =>
      simp only [cond_true]; unfold textP; simp only
      cases n.kind == 7 || n.kind == 10 with
      | true => simp only [cond_true]; cases (trimM t.text).isEmpty <;> exact h.up
      | false => simp only [cond_false]; exact h.add _
    | false =>
      simp only [cond_false]
      cases t.kind == 7 with
      | true => simp only [cond_true]; exact h.same (m := .mk n.kind n.pl t.text n.attrs n.kids) rfl rfl
      | false =>
        simp only [cond_false]
        cases t.kind == 2 || t.kind == 3 with
        | true =>
          simp only [cond_true]; unfold begP; simp only
          cases emptyB (elM t.name) with
          | true => simp only [cond_true]; exact h.add _
          | false => simp only [cond_false]; exact h.push rfl
        | false =>
          simp only [cond_false]
          cases t.kind == 5 with
          | true => simp only [cond_true]; exact h.push (n := .mk 14 t.fr [] [] []) rfl
          | false =>
            simp only [cond_false]; unfold endP; simp only
            cases endBad t n with
            | true => simp only [cond_true]; exact h.up
            | false =>
              simp only [cond_false]
              cases r with
              | nil => exact h.up
              | cons m q => exact h.pop.add _
theorem inv0 : Inv 0 page0.rows := ⟨rfl, by decide, fun n hn => by
  rw [List.mem_singleton.1 hn]; exact Nat.le_refl 0⟩
theorem vg_kind {hid : Bool} {l : List Ex.Tok} (h : Ex.VG hid l) : ∀ t ∈ l, t.kind = 1 ∨ t.kind = 2 ∨ t.kind = 3 ∨ t.kind = 4 ∨ t.kind = 5 ∨ t.kind = 6 ∨ t.kind = 7 := by
  induction h with
  | nil => intro t ht; cases ht
  | text k1 _ _ _ _ _ _ ih =>
    intro t ht
    rcases List.mem_cons.1 ht with rfl | ht
    · exact .inl k1
    · exact ih t ht
  | tag k1 _ _ _ ih =>
    intro t ht
    rcases List.mem_cons.1 ht with rfl | ht
    · rcases k1 with k | k
      · exact .inr (.inr (.inl k))
      · exact .inr (.inl k.1)
    · exact ih t ht
  | own k1 _ _ a1 _ _ c1 _ _ _ _ ih =>
    intro t ht
    rcases List.mem_cons.1 ht with rfl | ht
    · exact .inr (.inl k1)
    · rcases List.mem_cons.1 ht with rfl | ht
      · exact .inr (.inr (.inr (.inr (.inr (.inr a1)))))
      · exact ih t ht
  | close k1 _ _ _ ih =>
    intro t ht
    rcases List.mem_cons.1 ht with rfl | ht
    · exact .inr (.inr (.inr (.inl k1)))
    · exact ih t ht
  | hide k1 _ _ _ ih =>
    intro t ht
    rcases List.mem_cons.1 ht with rfl | ht
    · exact .inr (.inr (.inr (.inr (.inl k1))))
    · exact ih t ht
  | shown k1 _ _ _ _ ih =>
    intro t ht
    rcases List.mem_cons.1 ht with rfl | ht
    · exact .inr (.inr (.inr (.inr (.inr (.inl k1)))))
    · exact ih t ht
theorem wg_mem {s : List UInt8} : ∀ (r : List Ex.Tok) (a : Nat) (prev : Option Ex.Tok) (hid : Bool), Ex.WG s a prev hid r → ∀ t ∈ r, t.fr ≤ t.to ∧ t.to ≤ s.length ∧ t.text.length ≤ t.to
  | [], _, _, _, _, t, ht => by cases ht
  | u :: r, a, prev, hid, h, t, ht => by
    unfold Ex.WG at h; obtain ⟨h1, h2, h3, h4, _, _, _, _, _, _, h5⟩ := h
    rcases List.mem_cons.1 ht with rfl | ht
    · refine ⟨by omega, h3, ?_⟩
      rw [← h4]; unfold Ex.cut; simp only [List.length_take, List.length_drop]; omega
    · exact wg_mem r _ _ _ h5 t ht
theorem lex_tok {s : List UInt8} {l : List Ex.Tok} (hs : s.length ≤ 65536) (h : Ex.lexM s = .ok l) : l.length ≤ 131074 ∧ ∀ t ∈ l, tokB t ∧ (t.kind = 1 ∨ t.kind = 2 ∨ t.kind = 3 ∨ t.kind = 4 ∨ t.kind = 5 ∨ t.kind = 6 ∨ t.kind = 7) := by
  have hw := Ex.lexM_whole h
  refine ⟨?_, fun t ht => ⟨?_, vg_kind (Ex.lexM_good h) t ht⟩⟩
  · rcases Ex.WG_len l 0 none false hw (Nat.zero_le _) with h | ⟨_, h⟩ <;> omega
  · obtain ⟨h1, h2, h3⟩ := wg_mem l 0 none false hw t ht; have hf := Ex.lexM_fit h t ht; have hc := Ex.fits_count hf; have := hf.1; unfold tokB limS
    exact ⟨by omega, by omega, by omega, by omega, h3⟩
end Go.Ai.Sp
end
section
namespace Go.Ai.Sp
open Go.Ai Go.RowKit
mutual
def smN (M : Nat) : Nd → Prop
  | .mk _ _ t al ks => t.length ≤ M ∧ al.length ≤ M ∧ (∀ a ∈ al, a.name.length ≤ M ∧ a.value.length ≤ M) ∧ ks.length ≤ M ∧ smNs M ks
def smNs (M : Nat) : List Nd → Prop
  | [] => True
  | n :: r => smN M n ∧ smNs M r
end
theorem smNs_app {M : Nat} : ∀ {a b : List Nd}, smNs M (a ++ b) ↔ smNs M a ∧ smNs M b
  | [], b => by simp [smNs]
  | n :: r, b => by simp only [List.cons_append, smNs, smNs_app (a := r), and_assoc]
theorem smN_eq {M : Nat} (n : Nd) : smN M n = (n.text.length ≤ M ∧ n.attrs.length ≤ M ∧ (∀ a ∈ n.attrs, a.name.length ≤ M ∧ a.value.length ≤ M) ∧ n.kids.length ≤ M ∧ smNs M n.kids) := by
  obtain ⟨k, p, t, al, ks⟩ := n; rfl
mutual
theorem smN_fit {M : Nat} (hM : M ≤ lim) : ∀ n : Nd, smN M n → n.fit
  | .mk _ _ t al ks, ⟨h1, h2, h3, h4, h5⟩ => ⟨by omega, by omega, fun a ha => by have := h3 a ha; exact ⟨by omega, by omega⟩, by omega, smNs_fits hM ks h5⟩
theorem smNs_fits {M : Nat} (hM : M ≤ lim) : ∀ l : List Nd, smNs M l → fits l
  | [], _ => trivial
  | n :: r, ⟨h1, h2⟩ => ⟨smN_fit hM n h1, smNs_fits hM r h2⟩
end
def tokM (M : Nat) (t : Ex.Tok) : Prop := t.text.length ≤ M ∧ t.attrs.length ≤ M ∧ ∀ a ∈ t.attrs, a.name.length ≤ M ∧ a.value.length ≤ M
theorem attr_len {l : List Ex.Att} {a : Ex.Att} (h : a ∈ l) : a.name.length ≤ (Ex.attrsS l).length ∧ a.value.length ≤ (Ex.attrsS l).length := by
  induction l with
  | nil => cases h
  | cons b l ih =>
    simp only [Ex.attrsS, List.length_cons, List.length_append]
    rcases List.mem_cons.1 h with rfl | h
    · constructor <;> omega
    · have := ih h
      constructor <;> omega
theorem tok_M {s : List UInt8} {l : List Ex.Tok} (h : Ex.lexM s = .ok l) : l.length ≤ 2 * s.length ∧ ∀ t ∈ l, tokM (2 * s.length + 1) t := by
  have hw := Ex.lexM_whole h
  refine ⟨?_, fun t ht => ?_⟩
  · rcases Ex.WG_len l 0 none false hw (Nat.zero_le _) with h | ⟨⟨p, h, _⟩, _⟩
    · omega
    · cases h
  · obtain ⟨h1, h2, h3⟩ := wg_mem l 0 none false hw t ht; have hf := Ex.lexM_fit h t ht; have hc := Ex.fits_count hf; have := hf.1
    refine ⟨by omega, by omega, fun a ha => ?_⟩
    have hal := attr_len ha
    have hwr : (Ex.attrsS t.attrs).length ≤ (Ex.written t).length := by
      rcases hf.2 with h | h | h
      · rw [h] at ha; cases ha
      · unfold Ex.written
        rw [if_neg (by omega), if_neg (by omega), if_pos h]
        simp only [List.length_append]; omega
      · unfold Ex.written
        rw [if_neg (by omega), if_neg (by omega), if_neg (by omega), if_pos h]
        simp only [List.length_append]; omega
    omega
structure Sz (M i : Nat) (l : List Nd) : Prop where
  sm : smNs M l
  kids : ∀ n ∈ l, n.kids.length ≤ i
  size : sizes l ≤ i + 1
theorem Sz.up {M i : Nat} {l : List Nd} (h : Sz M i l) : Sz M (i + 1) l := ⟨h.sm, fun n hn => by have := h.kids n hn; omega, by have := h.size; omega⟩
theorem size_addK (n k : Nd) : (addK n k).size = n.size + k.size := by
  obtain ⟨a, b, c, d, e⟩ := n; simp only [addK, Nd.size, Nd.kids, sizes_append, sizes]; omega
theorem Sz.add {M i : Nat} {n : Nd} {l : List Nd} (h : Sz M i (n :: l)) {k : Nd} (hk : smN M k) (hs : k.size ≤ 1) (hi : i + 1 ≤ M) : Sz M (i + 1) (addK n k :: l) := by
  obtain ⟨⟨h1, h2⟩, h3, h4⟩ := h
  have hn := h3 n (by simp)
  refine ⟨⟨?_, h2⟩, fun m hm => ?_, ?_⟩
  · rw [smN_eq] at h1 ⊢; obtain ⟨a1, a2, a3, a4, a5⟩ := h1; refine ⟨a1, a2, a3, ?_, ?_⟩
    · rw [kids_addK, List.length_append]; simp only [List.length_cons, List.length_nil]; omega
    · rw [kids_addK, smNs_app]; exact ⟨a5, hk, trivial⟩
  · rcases List.mem_cons.1 hm with rfl | hm
    · rw [kids_addK, List.length_append]; simp only [List.length_cons, List.length_nil]; omega
    · have := h3 m (List.mem_cons_of_mem _ hm); omega
  · simp only [sizes, size_addK] at h4 ⊢; omega
theorem Sz.push {M i : Nat} {l : List Nd} (h : Sz M i l) {n : Nd} (hn : smN M n) (hk : n.kids = []) : Sz M (i + 1) (n :: l) := by
  obtain ⟨h1, h3, h4⟩ := h
  refine ⟨⟨hn, h1⟩, fun m hm => ?_, ?_⟩
  · rcases List.mem_cons.1 hm with rfl | hm
    · rw [hk]; simp
    · have := h3 m hm; omega
  · rw [sizes, n.size_eq, hk]; simp only [sizes]; omega
theorem Sz.text {M i : Nat} {n : Nd} {l : List Nd} (h : Sz M i (n :: l)) {t : List UInt8} (ht : t.length ≤ M) : Sz M (i + 1) (.mk n.kind n.pl t n.attrs n.kids :: l) := by
  obtain ⟨⟨h1, h2⟩, h3, h4⟩ := h; rw [smN_eq] at h1; obtain ⟨a1, a2, a3, a4, a5⟩ := h1
  refine ⟨⟨⟨ht, a2, a3, a4, a5⟩, h2⟩, fun m hm => ?_, ?_⟩
  · rcases List.mem_cons.1 hm with rfl | hm
    · have := h3 n (by simp)
      show n.kids.length ≤ _; omega
    · have := h3 m (List.mem_cons_of_mem _ hm); omega
  · simp only [sizes, Nd.size_eq, Nd.kids] at h4 ⊢; omega
theorem Sz.pop {M i : Nat} {n m : Nd} {l : List Nd} (h : Sz M i (n :: m :: l)) (hi : i + 1 ≤ M) : Sz M (i + 1) (addK m n :: l) := by
  obtain ⟨⟨h1, h2, h5⟩, h3, h4⟩ := h
  have hm := h3 m (by simp)
  refine ⟨⟨?_, h5⟩, fun x hx => ?_, ?_⟩
  · rw [smN_eq] at h2 ⊢; obtain ⟨a1, a2, a3, a4, a5⟩ := h2; refine ⟨a1, a2, a3, ?_, ?_⟩
    · rw [kids_addK, List.length_append]; simp only [List.length_cons, List.length_nil]; omega
    · rw [kids_addK, smNs_app]; exact ⟨a5, h1, trivial⟩
  · rcases List.mem_cons.1 hx with rfl | hx
    · rw [kids_addK, List.length_append]; simp only [List.length_cons, List.length_nil]; omega
    · have := h3 x (by simp [hx]); omega
  · simp only [sizes, size_addK] at h4 ⊢; omega
theorem sm_tok {M : Nat} {t : Ex.Tok} (h : tokM M t) (k p : Int) : smN M (.mk k p [] (t.attrs.map toA) []) := by
  refine ⟨Nat.zero_le _, by rw [List.length_map]; exact h.2.1, fun a ha => ?_, Nat.zero_le _, trivial⟩
  obtain ⟨b, hb, rfl⟩ := List.mem_map.1 ha; exact h.2.2 b hb
theorem sz_step {M i : Nat} {s : Ps} {t : Ex.Tok} (h : Sz M i s.rows) (ht : tokM M t) (hi : i + 1 ≤ M) : Sz M (i + 1) (stepP t s).rows := by
  obtain ⟨rows, pl, e⟩ := s
  cases rows with
  | nil =>
    have : (stepP t ⟨[], pl, e⟩).rows = [] := by
      unfold stepP
      cases t.kind == 1 <;> cases t.kind == 7 <;> cases t.kind == 2 || t.kind == 3 <;> cases t.kind == 5 <;> rfl
    rw [this]
    exact ⟨trivial, fun n hn => (by cases hn), by simp [sizes]⟩
  | cons n r =>
    unfold stepP
    cases t.kind == 1 with
    | true =>
      simp only [cond_true]; unfold textP; simp only
      cases n.kind == 7 || n.kind == 10 with
      | true => simp only [cond_true]; cases (trimM t.text).isEmpty <;> exact h.up
      | false => simp only [cond_false]; exact h.add ⟨ht.1, Nat.zero_le _, fun a ha => (by cases ha), Nat.zero_le _, trivial⟩ (by simp [Nd.size, sizes]) hi
    | false =>
      simp only [cond_false]
      cases t.kind == 7 with
      | true => simp only [cond_true]; exact h.text ht.1
      | false =>
        simp only [cond_false]
        cases t.kind == 2 || t.kind == 3 with
        | true =>
          simp only [cond_true]; unfold begP; simp only
          cases emptyB (elM t.name) with
          | true => simp only [cond_true]; exact h.add (sm_tok ht _ _) (by simp [Nd.size, sizes]) hi
          | false => simp only [cond_false]; exact h.push (sm_tok ht _ _) rfl
        | false =>
          simp only [cond_false]
          cases t.kind == 5 with
          | true => simp only [cond_true]; exact h.push (n := .mk 14 t.fr [] [] []) ⟨Nat.zero_le _, Nat.zero_le _, fun a ha => (by cases ha), Nat.zero_le _, trivial⟩ rfl
          | false =>
            simp only [cond_false]; unfold endP; simp only
            cases endBad t n with
            | true => simp only [cond_true]; exact h.up
            | false =>
              simp only [cond_false]
              cases r with
              | nil => exact h.up
              | cons m q => exact h.pop hi
theorem sz_parse {M : Nat} : ∀ (l : List Ex.Tok) (i : Nat) (s : Ps), Sz M i s.rows → (∀ t ∈ l, tokM M t) → i + l.length ≤ M → Sz M (i + l.length) (parseL l s).rows
  | [], i, s, h, _, _ => h
  | t :: l, i, s, h, ht, hi => by
    simp only [List.length_cons] at hi ⊢
    have h1 := sz_step h (ht t (by simp)) (by omega)
    rw [parseL]
    cases (stepP t s).e == 0 with
    | true =>
      have := sz_parse l (i + 1) _ h1 (fun u hu => ht u (List.mem_cons_of_mem _ hu)) (by omega)
      simp only [cond_true]
      rw [show i + (l.length + 1) = i + 1 + l.length by omega]
      exact this
    | false =>
      simp only [cond_false]
      exact ⟨h1.sm, fun n hn => by have := h1.kids n hn; omega, by have := h1.size; omega⟩
theorem parse_small {s : List UInt8} {n : Nd} (h : parseM s = .ok n) : s.length ≤ 65536 ∧ smN (2 * s.length + 1) n ∧ n.size ≤ 2 * s.length + 1 := by
  unfold parseM at h; split at h
  · cases h
  · rename_i hs; split at h
    · cases h
    · rename_i l hl; obtain ⟨h1, h2⟩ := tok_M hl
      have h3 := sz_parse l 0 page0 ⟨⟨⟨Nat.zero_le _, Nat.zero_le _, fun a ha => (by cases ha), Nat.zero_le _, trivial⟩, trivial⟩, fun n hn => (by rw [List.mem_singleton.1 hn]; exact Nat.zero_le _), by simp [page0, sizes, Nd.size]⟩ h2 (by omega)
      unfold parseT doneT at h
      cases he : (parseL l page0).e == 0 with
      | false => rw [he] at h; cases h
      | true =>
        rw [he] at h; simp only [cond_true] at h; split at h
        · rename_i m hm
          injection h with h
          subst h; rw [hm] at h3; have := h3.size; simp only [sizes] at this
          exact ⟨by omega, h3.sm.1, by omega⟩
        · cases h
theorem smN_nd0 (M : Nat) : smN M nd0 := ⟨Nat.zero_le _, Nat.zero_le _, fun a ha => (by cases ha), Nat.zero_le _, trivial⟩
theorem parseN_small (s : List UInt8) : smN (2 * s.length + 1) (parseN s) ∧ (parseN s).size ≤ 2 * s.length + 1 ∧ (65536 < s.length → parseN s = nd0) := by
  unfold parseN
  cases h : parseM s with
  | ok n =>
    obtain ⟨h1, h2, h3⟩ := parse_small h
    exact ⟨h2, h3, fun hs => by omega⟩
  | error x => exact ⟨smN_nd0 _, by simp [parseV, nd0, Nd.size, sizes], fun _ => rfl⟩
theorem parseN_size (s : List UInt8) : (parseN s).size ≤ 131073 := by
  obtain ⟨_, h1, h2⟩ := parseN_small s
  by_cases hs : 65536 < s.length
  · rw [h2 hs]; decide
  · omega
end Go.Ai.Sp
end
