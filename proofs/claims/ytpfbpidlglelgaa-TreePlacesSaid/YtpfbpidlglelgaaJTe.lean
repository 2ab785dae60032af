/-
  The contract of a node that is put together. No statement about the program is made here.
  Runs of the functions of trees, printed by a home tool; each is the kernel's word.
  Trees: a node that is put together; a tree whose places are further on is looked at as before.
  Trees: plain laws of TreePlaces.
  Trees: how deep a tree may stand.
  Trees: what stands in a page stands in an element of one, but for the depth.
  TreePlaces' contract.
-/
import Derived.Test.YtpfbpidlglelgaaJTd
import Derived.Test.YtpfbpidlglelgaaCfg
section
namespace Go.Ai
open Go.RowKit
def nodeC : Con := fun vs h K => ∃ (k : Int) (l : List Nd), vs = [.int .i64 k, .sl 5 (encNs l) none] ∧ K (.agg [.int .i64 k, .int .i64 0, .str [], .sl 3 [] none, .sl 5 (encNs l) none]) h
end Go.Ai
end

section
namespace Go.Proofs.Ytpfbpidlglelgaa
open Go.Ai Go
set_option maxRecDepth 100000
set_option linter.unusedVariables false
theorem t5 {N : Nat} {v : AV} {xk xp : Int} {xt : List UInt8} {xa xs : List (List AV)} {by' : Int} (hT : TabOk cfg (ctab [(7, fewC), (8, trueC), (15, nodeC), (16, pageC N), (19, depthC N), (20, movedC N), (21, sameC N)])) (H :
    ∃ (nd1 : Nd), Nd.fit nd1 ∧ [AV.agg [AV.int IntKind.i64 xk, AV.int IntKind.i64 xp, AV.str xt, AV.sl 3 (stripss 0 [] xa) none, AV.sl 5 (stripss 0 [] xs) none]] = [AV.agg (encN nd1)] ∧ ifP (!decide (0 < Nd.left nd1 600)) (true = true ∧ AV.bool true = v) (∃ (n2 : Nd), ∃ (b3 : Int), Nd.size n2 < N ∧ Nd.tfit n2 ∧ [AV.agg [AV.int IntKind.i64 xk, AV.int IntKind.i64 xp, AV.str xt, AV.sl 3 (stripss 0 [] xa) none, AV.sl 5 (stripss 0 [] xs) none], AV.int IntKind.i64 by'] = [AV.agg (encN n2), AV.int IntKind.i64 b3] ∧ ∃ (n4 : Nd), Nd.size n4 < N ∧ Nd.tfit n4 ∧ N ≤ 1000000 ∧ [AV.agg [AV.int IntKind.i64 (Nd.kind n2), AV.int IntKind.i64 (IntKind.wrap IntKind.i64 (Nd.pl n2 + b3)), AV.str (Nd.text n2), AV.sl 3 (stripss 0 [] (List.map encA (List.map (Att.moved b3) (Nd.attrs n2)))) none, AV.sl 5 (stripss 0 [] (encNs (moveds (Nd.kids n2) b3))) none]] = [AV.agg (encN n4)] ∧ ∃ (n5 : Nd), Nd.size n5 < N ∧ Nd.tfit n5 ∧ N ≤ 1000000 ∧ [AV.agg [AV.int IntKind.i64 xk, AV.int IntKind.i64 xp, AV.str xt, AV.sl 3 (stripss 0 [] xa) none, AV.sl 5 (stripss 0 [] xs) none]] = [AV.agg (encN n5)] ∧ ifP (Nd.page n4 != Nd.page n5) (AV.bool false = v) (∃ (a6 : Nd), ∃ (b7 : Nd), Nd.size a6 < N ∧ Nd.fit a6 ∧ Nd.fit b7 ∧ [AV.agg [AV.int IntKind.i64 (Nd.kind n2), AV.int IntKind.i64 (IntKind.wrap IntKind.i64 (Nd.pl n2 + b3)), AV.str (Nd.text n2), AV.sl 3 (stripss 0 [] (List.map encA (List.map (Att.moved b3) (Nd.attrs n2)))) none, AV.sl 5 (stripss 0 [] (encNs (moveds (Nd.kids n2) b3))) none], AV.agg [AV.int IntKind.i64 xk, AV.int IntKind.i64 xp, AV.str xt, AV.sl 3 (stripss 0 [] xa) none, AV.sl 5 (stripss 0 [] xs) none]] = [AV.agg (encN a6), AV.agg (encN b7)] ∧ ifP (!Nd.same a6 b7) (AV.bool false = v) (∃ (a8 : Nd), ∃ (b9 : Nd), Nd.size a8 < N ∧ Nd.fit a8 ∧ Nd.fit b9 ∧ [AV.agg [AV.int IntKind.i64 xk, AV.int IntKind.i64 xp, AV.str xt, AV.sl 3 (stripss 0 [] xa) none, AV.sl 5 (stripss 0 [] xs) none], AV.agg [AV.int IntKind.i64 (Nd.kind n2), AV.int IntKind.i64 (IntKind.wrap IntKind.i64 (Nd.pl n2 + b3)), AV.str (Nd.text n2), AV.sl 3 (stripss 0 [] (List.map encA (List.map (Att.moved b3) (Nd.attrs n2)))) none, AV.sl 5 (stripss 0 [] (encNs (moveds (Nd.kids n2) b3))) none]] = [AV.agg (encN a8), AV.agg (encN b9)] ∧ ifP (!Nd.same a8 b9) (AV.bool false = v) (ifP (xk != 1) (true = true ∧ AV.bool true = v) (ifP (!xt == []) (true = true ∧ AV.bool true = v) (ifP (decide ((↑(List.length xa) : Int) > 0)) (true = true ∧ AV.bool true = v) (∃ (k10 : Int), ∃ (l11 : List Nd), [AV.int IntKind.i64 1, AV.sl 5 [[AV.int IntKind.i64 13, AV.int IntKind.i64 0, AV.str [], AV.sl 3 [] none, AV.sl 5 (stripss 0 [] xs) none]] none] = [AV.int IntKind.i64 k10, AV.sl 5 (encNs l11) none] ∧ ∃ (nd12 : Nd), Nd.size nd12 < N ∧ [AV.agg [AV.int IntKind.i64 xk, AV.int IntKind.i64 xp, AV.str xt, AV.sl 3 (stripss 0 [] xa) none, AV.sl 5 (stripss 0 [] xs) none]] = [AV.agg (encN nd12)] ∧ ∃ (n13 : Nd), Nd.size n13 < N ∧ Nd.tfit n13 ∧ N ≤ 1000000 ∧ [AV.agg [AV.int IntKind.i64 xk, AV.int IntKind.i64 xp, AV.str xt, AV.sl 3 (stripss 0 [] xa) none, AV.sl 5 (stripss 0 [] xs) none]] = [AV.agg (encN n13)] ∧ ifP (Nd.page n13 == 0) (∃ (n14 : Nd), Nd.size n14 < N ∧ Nd.tfit n14 ∧ N ≤ 1000000 ∧ [AV.agg [AV.int IntKind.i64 k10, AV.int IntKind.i64 0, AV.str [], AV.sl 3 [] none, AV.sl 5 (stripss 0 [] (encNs l11)) none]] = [AV.agg (encN n14)] ∧ ifP ((Nd.page n14 == 0) == decide ((↑(Nd.depth nd12) : Int) < 16)) (∃ (nd15 : Nd), Nd.size nd15 < N ∧ [AV.agg [AV.int IntKind.i64 k10, AV.int IntKind.i64 0, AV.str [], AV.sl 3 [] none, AV.sl 5 (stripss 0 [] (encNs l11)) none]] = [AV.agg (encN nd15)] ∧ ifP ((↑(Nd.depth nd15) : Int) == IntKind.wrap IntKind.i64 ((↑(Nd.depth nd12) : Int) + 1)) (true = true ∧ AV.bool true = v) (AV.bool false = v)) (AV.bool false = v)) (∃ (n16 : Nd), Nd.size n16 < N ∧ Nd.tfit n16 ∧ N ≤ 1000000 ∧ [AV.agg [AV.int IntKind.i64 k10, AV.int IntKind.i64 0, AV.str [], AV.sl 3 [] none, AV.sl 5 (stripss 0 [] (encNs l11)) none]] = [AV.agg (encN n16)] ∧ ifP (Nd.page n16 != 0) (true = true ∧ AV.bool true = v) (AV.bool false = v)))))))))) :
    ToEnd cfg 5 (bodyOf Try.f5) (RetIs Try.prog Try.f5 v) ([.code []]) .normal ([(0, true, .agg [.int .i64 xk, .int .i64 xp, .str xt, .sl 3 xa none, .sl 5 xs none]), (1, true, .int .i64 by')]) ([]) := by
  have e : unr cfg 5 (bodyOf Try.f5) (ctab [(7, fewC), (8, trueC), (15, nodeC), (16, pageC N), (19, depthC N), (20, movedC N), (21, sameC N)]) ⟨[], []⟩ (RetIs Try.prog Try.f5 v) 100000 ([.code []]) .normal ([(0, true, .agg [.int .i64 xk, .int .i64 xp, .str xt, .sl 3 xa none, .sl 5 xs none]), (1, true, .int .i64 by')]) ([]) =
    (∃ (nd1 : Nd), Nd.fit nd1 ∧ [AV.agg [AV.int IntKind.i64 xk, AV.int IntKind.i64 xp, AV.str xt, AV.sl 3 (stripss 0 [] xa) none, AV.sl 5 (stripss 0 [] xs) none]] = [AV.agg (encN nd1)] ∧ ifP (!decide (0 < Nd.left nd1 600)) (true = true ∧ AV.bool true = v) (∃ (n2 : Nd), ∃ (b3 : Int), Nd.size n2 < N ∧ Nd.tfit n2 ∧ [AV.agg [AV.int IntKind.i64 xk, AV.int IntKind.i64 xp, AV.str xt, AV.sl 3 (stripss 0 [] xa) none, AV.sl 5 (stripss 0 [] xs) none], AV.int IntKind.i64 by'] = [AV.agg (encN n2), AV.int IntKind.i64 b3] ∧ ∃ (n4 : Nd), Nd.size n4 < N ∧ Nd.tfit n4 ∧ N ≤ 1000000 ∧ [AV.agg [AV.int IntKind.i64 (Nd.kind n2), AV.int IntKind.i64 (IntKind.wrap IntKind.i64 (Nd.pl n2 + b3)), AV.str (Nd.text n2), AV.sl 3 (stripss 0 [] (List.map encA (List.map (Att.moved b3) (Nd.attrs n2)))) none, AV.sl 5 (stripss 0 [] (encNs (moveds (Nd.kids n2) b3))) none]] = [AV.agg (encN n4)] ∧ ∃ (n5 : Nd), Nd.size n5 < N ∧ Nd.tfit n5 ∧ N ≤ 1000000 ∧ [AV.agg [AV.int IntKind.i64 xk, AV.int IntKind.i64 xp, AV.str xt, AV.sl 3 (stripss 0 [] xa) none, AV.sl 5 (stripss 0 [] xs) none]] = [AV.agg (encN n5)] ∧ ifP (Nd.page n4 != Nd.page n5) (AV.bool false = v) (∃ (a6 : Nd), ∃ (b7 : Nd), Nd.size a6 < N ∧ Nd.fit a6 ∧ Nd.fit b7 ∧ [AV.agg [AV.int IntKind.i64 (Nd.kind n2), AV.int IntKind.i64 (IntKind.wrap IntKind.i64 (Nd.pl n2 + b3)), AV.str (Nd.text n2), AV.sl 3 (stripss 0 [] (List.map encA (List.map (Att.moved b3) (Nd.attrs n2)))) none, AV.sl 5 (stripss 0 [] (encNs (moveds (Nd.kids n2) b3))) none], AV.agg [AV.int IntKind.i64 xk, AV.int IntKind.i64 xp, AV.str xt, AV.sl 3 (stripss 0 [] xa) none, AV.sl 5 (stripss 0 [] xs) none]] = [AV.agg (encN a6), AV.agg (encN b7)] ∧ ifP (!Nd.same a6 b7) (AV.bool false = v) (∃ (a8 : Nd), ∃ (b9 : Nd), Nd.size a8 < N ∧ Nd.fit a8 ∧ Nd.fit b9 ∧ [AV.agg [AV.int IntKind.i64 xk, AV.int IntKind.i64 xp, AV.str xt, AV.sl 3 (stripss 0 [] xa) none, AV.sl 5 (stripss 0 [] xs) none], AV.agg [AV.int IntKind.i64 (Nd.kind n2), AV.int IntKind.i64 (IntKind.wrap IntKind.i64 (Nd.pl n2 + b3)), AV.str (Nd.text n2), AV.sl 3 (stripss 0 [] (List.map encA (List.map (Att.moved b3) (Nd.attrs n2)))) none, AV.sl 5 (stripss 0 [] (encNs (moveds (Nd.kids n2) b3))) none]] = [AV.agg (encN a8), AV.agg (encN b9)] ∧ ifP (!Nd.same a8 b9) (AV.bool false = v) (ifP (xk != 1) (true = true ∧ AV.bool true = v) (ifP (!xt == []) (true = true ∧ AV.bool true = v) (ifP (decide ((↑(List.length xa) : Int) > 0)) (true = true ∧ AV.bool true = v) (∃ (k10 : Int), ∃ (l11 : List Nd), [AV.int IntKind.i64 1, AV.sl 5 [[AV.int IntKind.i64 13, AV.int IntKind.i64 0, AV.str [], AV.sl 3 [] none, AV.sl 5 (stripss 0 [] xs) none]] none] = [AV.int IntKind.i64 k10, AV.sl 5 (encNs l11) none] ∧ ∃ (nd12 : Nd), Nd.size nd12 < N ∧ [AV.agg [AV.int IntKind.i64 xk, AV.int IntKind.i64 xp, AV.str xt, AV.sl 3 (stripss 0 [] xa) none, AV.sl 5 (stripss 0 [] xs) none]] = [AV.agg (encN nd12)] ∧ ∃ (n13 : Nd), Nd.size n13 < N ∧ Nd.tfit n13 ∧ N ≤ 1000000 ∧ [AV.agg [AV.int IntKind.i64 xk, AV.int IntKind.i64 xp, AV.str xt, AV.sl 3 (stripss 0 [] xa) none, AV.sl 5 (stripss 0 [] xs) none]] = [AV.agg (encN n13)] ∧ ifP (Nd.page n13 == 0) (∃ (n14 : Nd), Nd.size n14 < N ∧ Nd.tfit n14 ∧ N ≤ 1000000 ∧ [AV.agg [AV.int IntKind.i64 k10, AV.int IntKind.i64 0, AV.str [], AV.sl 3 [] none, AV.sl 5 (stripss 0 [] (encNs l11)) none]] = [AV.agg (encN n14)] ∧ ifP ((Nd.page n14 == 0) == decide ((↑(Nd.depth nd12) : Int) < 16)) (∃ (nd15 : Nd), Nd.size nd15 < N ∧ [AV.agg [AV.int IntKind.i64 k10, AV.int IntKind.i64 0, AV.str [], AV.sl 3 [] none, AV.sl 5 (stripss 0 [] (encNs l11)) none]] = [AV.agg (encN nd15)] ∧ ifP ((↑(Nd.depth nd15) : Int) == IntKind.wrap IntKind.i64 ((↑(Nd.depth nd12) : Int) + 1)) (true = true ∧ AV.bool true = v) (AV.bool false = v)) (AV.bool false = v)) (∃ (n16 : Nd), Nd.size n16 < N ∧ Nd.tfit n16 ∧ N ≤ 1000000 ∧ [AV.agg [AV.int IntKind.i64 k10, AV.int IntKind.i64 0, AV.str [], AV.sl 3 [] none, AV.sl 5 (stripss 0 [] (encNs l11)) none]] = [AV.agg (encN n16)] ∧ ifP (Nd.page n16 != 0) (true = true ∧ AV.bool true = v) (AV.bool false = v)))))))))) := by kernel_rfl
  exact unr_ok hT 100000 _ _ _ _ (e.mpr H)

end Go.Proofs.Ytpfbpidlglelgaa
end

section
namespace Go.Proofs.Ytpfbpidlglelgaa
open Go.Ai Go
set_option linter.unusedSimpArgs false
set_option linter.unusedVariables false
set_option maxRecDepth 100000

theorem pf15 : pureFn cfg 15 Try.f15 := ⟨by kernel_rfl, by kernel_rfl, by kernel_rfl, by kernel_rfl, by kernel_rfl, by kernel_rfl⟩
theorem moved_kind (n : Nd) (b : Int) : (n.moved b).kind = n.kind := by obtain ⟨k, p, t, al, ks⟩ := n; rw [Nd.moved]; rfl
theorem count_moved (r : Rul) (b : Int) : ∀ (al : List Att) (n : Int), cntR r (al.map (Att.moved b)) n = cntR r al n
  | [], n => rfl
  | a :: t, n => by
    rw [List.map_cons, cntR, cntR, count_moved r b t, count_moved r b t]; rfl
theorem keep_moved (b : Int) : ∀ (l : List Rul) (al : List Att) (f : Int), keepR l (al.map (Att.moved b)) f = keepR l al f
  | [], al, f => by rw [keepR, keepR, List.length_map]
  | r :: t, al, f => by
    rw [keepR_cons, keepR_cons, count_moved]
    cases cntR r al 0 with
    | none => rfl
    | some n => simp only [resR, keep_moved b t]
theorem moveds_len (b : Int) (l : List Nd) : (moveds l b).length = l.length := by rw [moveds_map]; exact List.length_map _
theorem form_moved (k : Int) (t : List UInt8) (al : List Att) (len : Nat) (d : Int) (hid : Bool) (b b' : Int) : formE k t (al.map (Att.moved b')) len d hid b = formE k t al len d hid b := by
  unfold formE
  rw [keep_moved]
mutual
theorem chk_moved (b' : Int) : ∀ (n : Nd) (d : Int) (hid : Bool) (b : Int), (n.moved b').chk d hid b = n.chk d hid b
  | .mk k p t al ks, d, hid, b => by
    rw [Nd.moved, Nd.chk, Nd.chk, form_moved, moveds_len, chks_moved b' ks]
theorem chks_moved (b' : Int) {p n : Int} : ∀ (l : List Nd) (i d : Int) (hid : Bool) (b : Int), chks p n (moveds l b') i d hid b = chks p n l i d hid b
  | [], _, _, _, _ => rfl
  | c :: r, i, d, hid, b => by
    rw [moveds, chks, chks, moved_kind, chk_moved b' c, chks_moved b' r]
end
theorem page_moved (n : Nd) (b : Int) : (n.moved b).page = n.page := by
  unfold Nd.page
  rw [moved_kind, chk_moved]
end Go.Proofs.Ytpfbpidlglelgaa
end

section
namespace Go.Proofs.Ytpfbpidlglelgaa
open Go.Ai Go
set_option linter.unusedSimpArgs false
set_option linter.unusedVariables false
set_option maxRecDepth 100000

mutual
theorem size_moved (b : Int) : ∀ n : Nd, (n.moved b).size = n.size
  | .mk k p t al ks => by rw [Nd.moved, Nd.size, Nd.size, sizes_moved b ks]
theorem sizes_moved (b : Int) : ∀ l : List Nd, sizes (moveds l b) = sizes l
  | [] => rfl
  | n :: r => by rw [moveds, sizes, sizes, size_moved b n, sizes_moved b r]
end
mutual
theorem tfit_moved (b : Int) : ∀ n : Nd, n.tfit → (n.moved b).tfit
  | .mk k p t al ks, h => by
    rw [Nd.tfit] at h
    rw [Nd.moved, Nd.tfit, List.length_map, moveds_len]
    refine ⟨h.1, h.2.1, fun a ha => ?_, h.2.2.2.1, tfits_moved b ks h.2.2.2.2⟩
    obtain ⟨a', ha', rfl⟩ := List.mem_map.1 ha
    exact h.2.2.1 a' ha'
theorem tfits_moved (b : Int) : ∀ l : List Nd, tfits l → tfits (moveds l b)
  | [], _ => trivial
  | n :: r, h => ⟨tfit_moved b n h.1, tfits_moved b r h.2⟩
end
mutual
theorem fit_moved (b : Int) : ∀ n : Nd, n.fit → (n.moved b).fit
  | .mk k p t al ks, h => by
    rw [Nd.fit] at h
    rw [Nd.moved, Nd.fit, List.length_map, moveds_len]
    refine ⟨h.1, h.2.1, fun a ha => ?_, h.2.2.2.1, fits_moved b ks h.2.2.2.2⟩
    obtain ⟨a', ha', rfl⟩ := List.mem_map.1 ha
    exact h.2.2.1 a' ha'
theorem fits_moved (b : Int) : ∀ l : List Nd, fits l → fits (moveds l b)
  | [], _ => trivial
  | n :: r, h => ⟨fit_moved b n h.1, fits_moved b r h.2⟩
end
theorem alikes_moved (b : Int) : ∀ l : List Att, alikes (l.map (Att.moved b)) l = true
  | [] => rfl
  | a :: r => by
    rw [List.map_cons, alikes, alikes_moved b r]
    simp [alike, Att.moved]
theorem alikes_moved' (b : Int) : ∀ l : List Att, alikes l (l.map (Att.moved b)) = true
  | [] => rfl
  | a :: r => by
    rw [List.map_cons, alikes, alikes_moved' b r]
    simp [alike, Att.moved]
mutual
theorem same_moved (b : Int) : ∀ n : Nd, (n.moved b).same n = true
  | .mk k p t al ks => by
    rw [Nd.moved, Nd.same]
    simp [Nd.kind, Nd.text, Nd.attrs, Nd.kids, alikes_moved, sames_moved b ks]
theorem sames_moved (b : Int) : ∀ l : List Nd, sames (moveds l b) l = true
  | [] => rfl
  | n :: r => by rw [moveds, sames, same_moved b n, sames_moved b r]; rfl
end
mutual
theorem same_moved' (b : Int) : ∀ n : Nd, n.same (n.moved b) = true
  | .mk k p t al ks => by
    rw [Nd.moved, Nd.same]
    simp [Nd.kind, Nd.text, Nd.attrs, Nd.kids, alikes_moved', sames_moved' b ks]
theorem sames_moved' (b : Int) : ∀ l : List Nd, sames l (moveds l b) = true
  | [] => rfl
  | n :: r => by rw [moveds, sames, same_moved' b n, sames_moved' b r]; rfl
end
theorem c15 : COk cfg 15 (fun vs h K => ∃ (k : Int) (l : List Nd), vs = [.int .i64 k, .sl 5 (encNs l) none] ∧ K (.agg [.int .i64 k, .int .i64 0, .str [], .sl 3 [] none, .sl 5 (encNs l) none]) h) := by
  refine cok_pure pf15 fun vs h K ht => ?_
  obtain ⟨k, l, rfl, hk⟩ := ht
  exact ⟨_, hk, t15 (ctab_ok ctab_nil) (by rw [stripNs])⟩
end Go.Proofs.Ytpfbpidlglelgaa
end

section
namespace Go.Proofs.Ytpfbpidlglelgaa
open Go.Ai Go
set_option linter.unusedSimpArgs false
set_option linter.unusedVariables false
set_option maxRecDepth 100000

theorem form_text {k : Int} (hk : (k == 2) = true) (t : List UInt8) (al : List Att) (len : Nat) (d d' : Int) (hid : Bool) (b : Int) : formE k t al len d hid b = formE k t al len d' hid b := by
  unfold formE
  rw [hk]; rfl
theorem form_low {d d' : Int} (h : d ≤ 16) (h' : d' ≤ 16) (k : Int) (t : List UInt8) (al : List Att) (len : Nat) (hid : Bool) (b : Int) : formE k t al len d hid b = formE k t al len d' hid b := by
  unfold formE
  rw [decide_eq_false (p := 16 < d) (by omega), decide_eq_false (p := 16 < d') (by omega)]
theorem form_deep {k d : Int} (hk : (k == 2) = false) (h : 16 < d) (t : List UInt8) (al : List Att) (len : Nat) (hid : Bool) (b : Int) : (formE k t al len d hid b == 0) = false := by
  unfold formE
  rw [hk, decide_eq_true (p := 16 < d) h]
  cases (k == 14 && hid) <;> rfl
theorem form_leaf {k : Int} (hk : (k == 2) = true) {t : List UInt8} {al : List Att} {len : Nat} {d : Int} {hid : Bool} {b : Int} (h : (formE k t al len d hid b == 0) = true) : len = 0 := by
  have e : k = 2 := by simpa using hk
  subst e
  unfold formE at h
  have e1 : leafB 2 = true := rfl
  rw [e1] at h
  by_cases hl : 0 < len
  · rw [decide_eq_true hl] at h
    revert h
    cases ((2 : Int) == 14 && hid) <;> cases (!((2 : Int) == 2) && decide (16 < d)) <;> cases (!keepR (rulesL 2) al 0) <;> cases (!textB 2 t hid || ((2 : Int) == 2 && b == 2)) <;> intro h <;> cases h
  · omega
def stand (n : Nd) : Nat := n.depth + if n.kind = 2 then 0 else 1
mutual
theorem chk_deep : ∀ (n : Nd) (d : Int) (hid : Bool) (b : Int), d + 1 ≤ 17 → (n.chk (d + 1) hid b = 0 ↔ n.chk d hid b = 0 ∧ d + 1 + (stand n : Nat) ≤ 17)
  | .mk k p t al ks, d, hid, b, hd => by
    rw [Nd.chk, Nd.chk]
    cases hk : k == 2 with
    | true =>
      have e : k = 2 := by simpa using hk
      have hs : stand (.mk k p t al ks) = depths ks := by
        unfold stand
        rw [show (Nd.mk k p t al ks).depth = depths ks from rfl, if_pos (show (Nd.mk k p t al ks).kind = 2 from e)]
        rfl
      rw [form_text hk t al ks.length (d + 1) d hid b, hs]
      cases hf : formE k t al ks.length d hid b == 0 with
      | true =>
        have hl := form_leaf hk hf
        obtain rfl := List.length_eq_zero_iff.1 hl
        simp only [cond_true, chks, depths, true_and, true_iff]
        omega
      | false =>
        simp only [cond_false]
        have : ¬ formE k t al ks.length d hid b = 0 := by simpa using hf
        simp [this]
    | false =>
      have e : ¬ k = 2 := by simpa using hk
      have hs : stand (.mk k p t al ks) = depths ks + 1 := by
        unfold stand
        rw [show (Nd.mk k p t al ks).depth = depths ks from rfl, if_neg (show ¬ (Nd.mk k p t al ks).kind = 2 from e)]
      rw [hs]
      by_cases h16 : 16 < d + 1
      · rw [form_deep hk h16]
        have := form_deep hk h16 t al ks.length hid b
        simp only [cond_false]
        have h0 : ¬ formE k t al ks.length (d + 1) hid b = 0 := by simpa using this
        constructor
        · intro h; exact absurd h h0
        · intro h; omega
      · rw [form_low (d := d + 1) (d' := d) (by omega) (by omega)]
        cases hf : formE k t al ks.length d hid b == 0 with
        | true =>
          simp only [cond_true]
          rw [chks_deep ks _ _ (by omega)]
          constructor
          · intro h; exact ⟨h.1, by omega⟩
          · intro h; exact ⟨h.1, by omega⟩
        | false =>
          have : ¬ formE k t al ks.length d hid b = 0 := by simpa using hf
          simp only [cond_false]
          simp [this]
theorem chks_deep {p n : Int} : ∀ (l : List Nd) (i d : Int) {hid : Bool} {b : Int}, d + 1 ≤ 17 → (chks p n l i (d + 1) hid b = 0 ↔ chks p n l i d hid b = 0 ∧ d + 1 + (depths l : Nat) ≤ 17)
  | [], i, d, hid, b, hd => by simp only [chks, depths, true_and, true_iff]; omega
  | c :: r, i, d, hid, b, hd => by
    rw [chks, chks, depths]
    cases fitB p c.kind i n with
    | false => simp
    | true =>
      simp only [Bool.not_true, cond_false]
      have h1 := chk_deep c d hid b hd
      have h2 := chks_deep (p := p) (n := n) r (i + 1) d (hid := hid) (b := c.kind) hd
      unfold stand at h1
      cases e1 : c.chk (d + 1) hid b == 0 with
      | true =>
        have e1' := h1.1 (by simpa using e1)
        rw [e1'.1]
        simp only [cond_true, beq_self_eq_true]
        rw [h2]
        have := e1'.2
        constructor
        · intro h; exact ⟨h.1, by omega⟩
        · intro h; exact ⟨h.1, by omega⟩
      | false =>
        have e1' : ¬ c.chk (d + 1) hid b = 0 := by simpa using e1
        simp only [cond_false]
        constructor
        · intro h; exact absurd h e1'
        · intro h
          refine absurd (h1.2 ⟨?_, by omega⟩) e1'
          cases e2 : c.chk d hid b == 0 with
          | true => simpa using e2
          | false => rw [e2] at h; exact h.1
end
end Go.Proofs.Ytpfbpidlglelgaa
end

section
namespace Go.Proofs.Ytpfbpidlglelgaa
open Go.Ai Go
set_option linter.unusedSimpArgs false
set_option linter.unusedVariables false
set_option maxRecDepth 100000

theorem fit_1_13 (k i n : Int) : fitB 1 k i n = fitB 13 k i n := rfl
theorem chks_1_13 : ∀ (l : List Nd) (n i d : Int) (hid : Bool) (b : Int), chks 1 n l i d hid b = chks 13 n l i d hid b
  | [], _, _, _, _, _ => rfl
  | c :: r, n, i, d, hid, b => by rw [chks, chks, fit_1_13, chks_1_13 r]
def inP (l : List Nd) : Nd := .mk 1 0 [] [] [.mk 13 0 [] [] l]
theorem form_1 (len : Nat) : formE 1 [] [] len 0 false 0 = 0 := by
  unfold formE
  rfl
theorem form_13 (len : Nat) : formE 13 [] [] len 1 false 0 = 0 := by
  unfold formE
  rfl
theorem page_of (p : Int) (l : List Nd) : (Nd.mk 1 p [] [] l).page = chks 1 (l.length : Nat) l 0 1 false 0 := by
  show Nd.chk _ 0 false 0 = _
  rw [Nd.chk, form_1]; rfl
theorem page_in (l : List Nd) : (inP l).page = chks 13 (l.length : Nat) l 0 2 false 0 := by
  unfold inP
  rw [page_of, chks]
  have e : Nd.chk (.mk 13 0 [] [] l) 1 false 0 = chks 13 (l.length : Nat) l 0 2 false 0 := by
    rw [Nd.chk, form_13]; rfl
  rw [e]
  cases h : chks 13 (l.length : Nat) l 0 2 false 0 == 0 with
  | true => rw [eq_of_beq h]; rfl
  | false => rfl
theorem in_ok (p : Int) (l : List Nd) : (inP l).page = 0 ↔ (Nd.mk 1 p [] [] l).page = 0 ∧ depths l < 16 := by
  rw [page_in, page_of, chks_1_13, show (2 : Int) = 1 + 1 from rfl, chks_deep l 0 1 (by decide)]
  constructor
  · intro h; exact ⟨h.1, by omega⟩
  · intro h; exact ⟨h.1, by omega⟩
theorem depth_in (l : List Nd) : (inP l).depth = depths l + 1 := by
  unfold inP
  rw [Nd.depth, depths, depths]
  show max (depths l + 1) 0 = _
  omega

theorem atts_fit : ∀ (al : List Att) (l : Int), l ≤ 600 → 0 < attsG al l → al.length + attsG al l ≤ l ∧ ∀ a ∈ al, a.value.length ≤ tlim
  | [], l, hl, h => ⟨by simp [attsG], by simp⟩
  | a :: r, l, hl, h => by
    rw [attsG] at h ⊢
    by_cases h0 : 0 < l
    · rw [if_pos h0] at h ⊢
      have hg : attG a l ≤ l - 1 := by unfold attG; omega
      have ih := atts_fit r (attG a l) (by omega) h
      have hle : attsG r (attG a l) ≤ attG a l := attsG_le
      refine ⟨by simp only [List.length_cons]; omega, fun x hx => ?_⟩
      rcases List.mem_cons.1 hx with rfl | hx
      · unfold attG at hle h; unfold tlim; omega
      · exact ih.2 x hx
    · rw [if_neg h0] at h; omega
mutual
theorem tfit_of : ∀ (n : Nd) (l : Int), l ≤ 600 → 0 < n.left l → n.tfit
  | .mk k p t al ks, l, hl, h => by
    rw [Nd.left] at h
    have h1 := lefts_size ks (l := attsG al (l - 1 - (t.length / 20 : Nat)))
    have h2 : attsG al (l - 1 - (t.length / 20 : Nat)) ≤ l - 1 - (t.length / 20 : Nat) := attsG_le
    have h3 := atts_fit al (l - 1 - (t.length / 20 : Nat)) (by omega) (by omega)
    have h4 := tfits_of ks (attsG al (l - 1 - (t.length / 20 : Nat))) (by omega) (by omega) h
    rw [Nd.tfit]
    refine ⟨by unfold tlim; omega, by unfold tlim; omega, h3.2, ?_, h4.2⟩
    have := h4.1
    unfold tlim; omega
theorem tfits_of : ∀ (ks : List Nd) (l : Int), l ≤ 600 → 0 < l → 0 < lefts ks l → (ks.length : Int) + lefts ks l ≤ l ∧ tfits ks
  | [], l, hl, h0, h => ⟨by simp [lefts], trivial⟩
  | n :: r, l, hl, h0, h => by
    rw [lefts, if_pos h0] at h ⊢
    have hn : 0 < n.left l := by
      have := (lefts_size r (l := n.left l)).2
      omega
    have hs := (n.left_size (l := l)).1 hn
    have h5 := n.size_eq
    have ih := tfits_of r (n.left l) (by omega) hn h
    exact ⟨by simp only [List.length_cons]; omega, tfit_of n l hl hn, ih.2⟩
end
end Go.Proofs.Ytpfbpidlglelgaa
end

section
namespace Go.Proofs.Ytpfbpidlglelgaa
open Go.Ai Go
set_option linter.unusedSimpArgs false
set_option linter.unusedVariables false
set_option maxRecDepth 100000

theorem pf5 : pureFn cfg 5 Try.f5 := ⟨by kernel_rfl, by kernel_rfl, by kernel_rfl, by kernel_rfl, by kernel_rfl, by kernel_rfl⟩
theorem c15' : COk cfg 15 nodeC := c15
def placesC : Con := fun vs h K => ∃ (n : Nd) (b : Int), n.fit ∧ vs = [.agg (encN n), .int .i64 b] ∧ K (.bool true) h
theorem tab5 : TabOk cfg (ctab [(7, fewC), (8, trueC), (15, nodeC), (16, pageC 1000), (19, depthC 1000), (20, movedC 1000), (21, sameC 1000)]) :=
  ctab_ok (ctab_cons c7 (ctab_cons c8 (ctab_cons c15' (ctab_cons (c16 1000) (ctab_cons (c19 1000 (by decide)) (ctab_cons (c20 1000) (ctab_cons (c21 1000) ctab_nil)))))))
theorem c5 : COk cfg 5 placesC := by
  refine cok_pure pf5 fun vs h K ht => ?_
  obtain ⟨n, b, hf, rfl, hk⟩ := ht
  refine ⟨_, hk, ?_⟩
  rw [encN_eq]
  refine t5 tab5 ?_
  rw [stripAs, stripNs, ← encN_eq]
  refine ⟨n, hf, rfl, ifP_intro (fun _ => ⟨rfl, rfl⟩) fun a => ?_⟩
  have ha : 0 < n.left 600 := by simpa using a
  have hs : (n.size : Int) < 600 := Nd.left_pos ha
  have ht := tfit_of n 600 (by decide) ha
  refine ⟨n, b, by omega, ht, rfl, ?_⟩
  rw [stripAs, stripNs, ← encN_moved]
  refine ⟨n.moved b, by rw [size_moved]; omega, tfit_moved b n ht, by decide, rfl, n, by omega, ht, by decide, rfl, ?_⟩
  rw [page_moved]
  refine ifP_intro (fun g => ?_) fun _ => ?_
  · simp at g
  refine ⟨n.moved b, n, by rw [size_moved]; omega, fit_moved b n hf, hf, rfl, ?_⟩
  rw [same_moved]
  refine ifP_intro (fun g => by cases g) fun _ => ?_
  refine ⟨n, n.moved b, by omega, hf, fit_moved b n hf, rfl, ?_⟩
  rw [same_moved']
  refine ifP_intro (fun g => by cases g) fun _ => ?_
  refine ifP_intro (fun _ => ⟨rfl, rfl⟩) fun g1 => ifP_intro (fun _ => ⟨rfl, rfl⟩) fun g2 => ifP_intro (fun _ => ⟨rfl, rfl⟩) fun g3 => ?_
  obtain ⟨k, p, t, al, ks⟩ := n
  obtain rfl : k = 1 := by simpa [Nd.kind] using g1
  obtain rfl : t = [] := by simpa [Nd.text] using g2
  obtain rfl : al = [] := by
    cases al with
    | nil => rfl
    | cons x r => simp [Nd.attrs] at g3
  have hin := in_ok p ks
  have hd := depth_in ks
  have hsz : (inP ks).size < 1000 := by
    have h0 : (Nd.mk 1 p [] [] ks).size = 1 + sizes ks := rfl
    have h1 : (inP ks).size = 1 + (1 + sizes ks + 0) := rfl
    omega
  have htf : (inP ks).tfit := by
    rw [Nd.tfit] at ht
    unfold inP
    rw [Nd.tfit]
    refine ⟨by decide, by decide, by simp, (by show 1 ≤ tlim; decide), ?_, trivial⟩
    rw [Nd.tfit]
    exact ⟨by decide, by decide, by simp, ht.2.2.2.1, ht.2.2.2.2⟩
  have hdep : (Nd.mk 1 p [] [] ks).depth = depths ks := rfl
  have hdb : depths ks < 1000 := by
    have h1 := depths_le ks
    have h0 : (Nd.mk 1 p [] [] ks).size = 1 + sizes ks := rfl
    omega
  refine ⟨1, [.mk 13 0 [] [] ks], rfl, _, by omega, rfl, _, by omega, ht, by decide, rfl, ifP_intro (fun g => ?_) fun g => ?_⟩
  · have g' : (Nd.mk 1 p [] [] ks).page = 0 := eq_of_beq g
    refine ⟨inP ks, hsz, htf, by decide, by rw [stripNs]; rfl, ifP_intro (fun e => ?_) fun e => ?_⟩
    · refine ⟨inP ks, hsz, by rw [stripNs]; rfl, ifP_intro (fun _ => ⟨rfl, rfl⟩) fun q => ?_⟩
      rw [hd, hdep, wrap_in (by omega) (by omega)] at q
      simp at q
    · rw [hdep] at e
      have h2 : (inP ks).page = 0 ↔ depths ks < 16 := hin.trans ⟨fun h => h.2, fun h => ⟨g', h⟩⟩
      have h3 : ((inP ks).page == 0) = decide (((depths ks : Nat) : Int) < 16) := by
        rw [Bool.eq_iff_iff, beq_iff_eq, decide_eq_true_eq, h2]
        omega
      rw [h3] at e
      simp at e
  · have g' : ¬ (Nd.mk 1 p [] [] ks).page = 0 := by simpa using g
    refine ⟨inP ks, hsz, htf, by decide, by rw [stripNs]; rfl, ifP_intro (fun _ => ⟨rfl, rfl⟩) fun e => ?_⟩
    have e' : (inP ks).page = 0 := by simpa using e
    exact absurd (hin.1 e').1 g'
end Go.Proofs.Ytpfbpidlglelgaa
end
