/-
  TreeNodes: its calls under contract, in whatever world.
  esitree.Each and TreeNodes: walks.
-/
import Derived.Test.YtpfbpidlglelgaaJNe
import Derived.Test.YtpfbpidlglelgaaJNb
import Derived.Shelf.RegionOpen
import Derived.RangeFuncCalls
import Derived.RangeFuncBox
section
namespace Go.Proofs.Ytpfbpidlglelgaa
open Go.Ai Go Go.RowKit
set_option linter.unusedSimpArgs false
set_option linter.unusedVariables false
set_option maxRecDepth 100000
section
variable {I : World → Prop} {B0 : Nat}
theorem few_call (S : Sound cfg I B0) {nd : Nd} {n : Value} {W : World} (hI : I W) (hB : B0 ≤ W.heap.size) (hf : nd.fit) (hr : Rel (Go.Ai.start W) (.agg (encN nd)) n) :
    CallsIn Fence.wide 0 Try.prog 7 #[n] W fun e w' => e = .returned (.bool (decide (0 < nd.left 600))) ∧ Below W.heap.size W w' := by
  refine callsIn_wide.2 ((call_at (args := [n]) S c7 (by kernel_rfl) (by kernel_rfl) (vs := [.agg (encN nd)]) (v := .bool (decide (0 < nd.left 600))) (by simp [pureV.pureVs, pureV, pure_encN]) rfl ⟨nd, hf, rfl, rfl, rfl⟩ hI hB (fun g cs h => by cases h) ⟨n, [], rfl, hr, rfl⟩).mono ?_)
  rintro e w' ⟨c, rfl, hb, hc⟩
  cases hc
  exact ⟨rfl, hb⟩
theorem works_call (S : Sound cfg I B0) {W : World} (hI : I W) (hB : B0 ≤ W.heap.size) :
    CallsIn Fence.wide 0 Try.prog 8 #[] W fun e w' => e = .returned (.bool true) ∧ Below W.heap.size W w' := by
  refine callsIn_wide.2 ((call_at (args := []) S c8 (by kernel_rfl) (by kernel_rfl) (vs := []) (v := .bool true) rfl rfl ⟨rfl, rfl, rfl⟩ hI hB (fun g cs h => by cases h) rfl).mono ?_)
  rintro e w' ⟨c, rfl, hb, hc⟩
  cases hc
  exact ⟨rfl, hb⟩
theorem all_call (S : Sound cfg I B0) {nd : Nd} {n : Value} {W : World} (hI : I W) (hB : B0 ≤ W.heap.size) (hf : nd.fit) (hs : nd.size ≤ 100000) (hr : Rel (Go.Ai.start W) (.agg (encN nd)) n) :
    CallsIn Fence.wide 0 Try.prog 9 #[n] W fun e w' => ∃ c, e = .returned c ∧ Below W.heap.size W w' ∧ Rel (Go.Ai.start w') (.sl 5 (encNs nd.flat) none) c := by
  refine callsIn_wide.2 (call_at (args := [n]) S (c9 (nd.size + 1)) (by kernel_rfl) (by kernel_rfl) (vs := [.agg (encN nd)]) (by simp [pureV.pureVs, pureV, pure_encN]) (by simp [pureV, pure_encNs]) ⟨nd, by omega, hs, hf, rfl, rfl, rfl⟩ hI hB (fun g cs h => by cases h) ⟨n, [], rfl, hr, rfl⟩)
theorem equal_call (S : Sound cfg I B0) {nd : Nd} {n m : Value} {W : World} (hI : I W) (hB : B0 ≤ W.heap.size) (hf : nd.fit) (hr : Rel (Go.Ai.start W) (.agg (encN nd)) n) (hm : Rel (Go.Ai.start W) (.agg (encN nd)) m) :
    CallsIn Fence.wide 0 Try.prog 11 #[n, m] W fun e w' => e = .returned (.bool true) ∧ Below W.heap.size W w' := by
  refine callsIn_wide.2 ((call_at (args := [n, m]) S (c11 (nd.size + 1)) (by kernel_rfl) (by kernel_rfl) (vs := [.agg (encN nd), .agg (encN nd)]) (v := .bool true) (by simp [pureV.pureVs, pureV, pure_encN]) rfl ⟨nd, by omega, hf, rfl, rfl, rfl⟩ hI hB (fun g cs h => by cases h) ⟨n, _, rfl, hr, m, _, rfl, hm, rfl⟩).mono ?_)
  rintro e w' ⟨c, rfl, hb, hc⟩
  cases hc
  exact ⟨rfl, hb⟩
end
theorem func_nil (f : Fn) (a b : Array Value) (w : World) : Sem.run Try.prog (binOp BinOp.eql 31 (Value.func f a b) Value.nilFunc) w = .ok (.bool false) w := by
  have hu := Try.underlying31
  have he : ∀ n, (Op.equalIn (n + 1) 31 (Value.func f a b) Value.nilFunc).run Try.prog w = .ok false w := fun n => by
    simp [Op.equalIn, run_underlying hu]
  have he' : (Op.equalIn Op.maxDepth 31 (Value.func f a b) Value.nilFunc).run Try.prog w = .ok false w := by
    obtain ⟨m, hm⟩ : ∃ m, Op.maxDepth = m + 1 := ⟨_, rfl⟩
    rw [hm]; exact he m
  simp [binOp, Op.equal, he']
end Go.Proofs.Ytpfbpidlglelgaa
end

section
namespace Go.Proofs.Ytpfbpidlglelgaa
open Go.Ai Go Go.RowKit
set_option linter.unusedSimpArgs false
set_option linter.unusedVariables false
set_option maxRecDepth 100000
attribute [local go_sem] Oper.semAt_some
/-- A block as it was made. -/
def Blk1 (X : World) (b : Nat) (c : Array Value) (t : TypeId) : Prop := X.heap[b]? = some (.cells c t)
theorem Blk1.cell {X : World} {b : Nat} {c : Array Value} {t : TypeId} (h : Blk1 X b c t) (i : Nat) (hi : i < c.size) : X.cell? ⟨b, i, none⟩ = some c[i] ∧ X.frozen? ⟨b, i, none⟩ = false := by
  constructor <;> simp [World.cell?, World.frozen?, show X.heap[b]? = _ from h, hi]
theorem fin3 {W w : World} {ds : List Deferred} {tmps : Array Value} {x : Value} (hb : Below W.heap.size W w) (hr : Blk1 w (W.heap.size + 1) #[x] 4) (hm : Marks (W.heap.size + 2) w ds) (htm : tmps.getD 4 undef = .pointer (some ⟨W.heap.size + 1, 0, none⟩)) :
    LeavesInM Fence.wide 0 Try.prog Try.f3 tmps (fun e W' => e = .returned (.bool true) ∧ Below W.heap.size W W') ds .returning (w.setCell ⟨W.heap.size + 1, 0, none⟩ (.bool true)) := by
  have hlt : W.heap.size + 1 < w.heap.size := (Array.getElem?_eq_some_iff.1 hr).1
  have hk : Kept (fun k => k ≠ W.heap.size + 1) w (w.setCell ⟨W.heap.size + 1, 0, none⟩ (.bool true)) := (Kept.refl _ _).setCell _ _ (.inl fun h => h rfl)
  have hz := hk.size
  refine leaves_marks (b := W.heap.size + 2) ds _ (by omega) (hm.kept (b0 := 0) hk (fun k hk => by omega)) fun w' hw => ?_
  have hc : w'.cell? ⟨W.heap.size + 1, 0, none⟩ = some (.bool true) := by
    rw [hw.cell (a := ⟨W.heap.size + 1, 0, none⟩) (by show W.heap.size + 1 < _; omega) (by show W.heap.size + 1 < _; omega)]
    exact World.cell?_setCell_same' _ _ _ (by rw [(hr.cell 0 (Nat.zero_lt_one)).1]; rfl)
  exact ⟨_, res_cell rfl _ _ _ _ .bool htm (by kernel_rfl) rfl hc, rfl, (hb.setCell (p := ⟨W.heap.size + 1, 0, none⟩) (by show W.heap.size ≤ W.heap.size + 1; omega) _).trans (hw.below (by omega) (fun k hk => by show k < _; omega))⟩
set_option maxHeartbeats 4000000 in
theorem nodes_calls {I : World → Prop} {B0 : Nat} (S : Sound cfg I B0) {nd : Nd} {n : Value} {st : Int} {W : World} (hI : I W) (hB : B0 ≤ W.heap.size) (hf : nd.fit) (hsz : 0 < nd.left 600 → nd.size ≤ 600) (hst : 0 ≤ st) (hst2 : st ≤ 65535) (hr : Rel (Go.Ai.start W) (.agg (encN nd)) n) :
    CallsIn Fence.wide 0 Try.prog 3 #[n, .int .u16 st] W fun e w' => e = .returned (.bool true) ∧ Below W.heap.size W w' := by
  obtain ⟨T, rfl, hTin, hmt⟩ := vt_of (S := fun k => k < W.heap.size) (fun _ h => h) nd n hr
  obtain ⟨tv, us⟩ := T
  have hin0 := hTin
  obtain ⟨k, p, t, al, A, cap, rfl, o0, o1, o2, o3, hle, hcap, hin⟩ := hTin
  change Rel (Go.Ai.start W) (.agg (encN nd)) (.agg #[k, p, t, al, .slice A us.length cap]) at hr
  show CallsIn Fence.wide 0 Try.prog 3 #[.agg #[k, p, t, al, .slice A us.length cap], .int .u16 st] W _
  refine callsIn_of_wp_marks Try.func3 rfl trivial ?_
  simp only [Try.ntmps3, List.size_toArray, List.length_cons, List.length_nil, Nat.reduceAdd, Nat.reduceSub, Array.replicate_succ, Array.replicate_zero, List.push_toArray, List.append_toArray, List.nil_append, List.cons_append]
  gi_wp2
  refine ⟨trivial, rfl, ?_⟩
  obtain ⟨W1, hW1⟩ : ∃ W1, W1 = ((W.alloc (Obj.cells #[k, p, t, al, .slice A us.length cap] 25)).alloc (Obj.cells #[.bool false] 4)) := ⟨_, rfl⟩
  rw [← hW1]
  have hb1 : Below W.heap.size W W1 := by rw [hW1]; exact ((Below.refl _ _).alloc (Nat.le_refl _) _).alloc (by simp) _
  have hz1 : W1.heap.size = W.heap.size + 2 := by rw [hW1]; simp
  have hn1 : Blk1 W1 W.heap.size #[k, p, t, al, .slice A us.length cap] 25 := by
    rw [hW1]; exact (Below.heap_alloc _ _ _ (by simp)).trans (World.alloc_heap_new W _)
  have hr1 : Blk1 W1 (W.heap.size + 1) #[.bool false] 4 := by
    rw [hW1]
    have := World.alloc_heap_new (W.alloc (Obj.cells #[k, p, t, al, .slice A us.length cap] 25)) (Obj.cells #[.bool false] 4)
    rwa [World.size_alloc] at this
  have hIW : ∀ X, Below W.heap.size W X → I X := fun X hX => S.hI _ _ hI (hX.mono hB)
  have hR : ∀ X, Below W.heap.size W X → Rel (Go.Ai.start X) (.agg (encN nd)) (.agg #[k, p, t, al, .slice A us.length cap]) := fun X hX => rel_later (by simp [pureV, pure_encN]) hX hr
  refine (few_call S (hIW _ hb1) (by omega) hf (hR _ hb1)).mono ?_
  clear hW1
  rintro e w2 ⟨rfl, hb2⟩
  have hbb2 : Below W.heap.size W w2 := hb1.trans (hb2.mono (by omega))
  have hz2 := hb2.size
  have hn2 : Blk1 w2 W.heap.size #[k, p, t, al, .slice A us.length cap] 25 := (hb2.block _ (by omega)).trans hn1
  have hr2 : Blk1 w2 (W.heap.size + 1) #[.bool false] 4 := (hb2.block _ (by omega)).trans hr1
  have n0 := (hn2.cell 0 (by simp)).1
  have n1 := (hn2.cell 1 (by simp)).1
  have n2 := (hn2.cell 2 (by simp)).1
  have n3 := (hn2.cell 3 (by simp)).1
  have n4 := (hn2.cell 4 (by simp)).1
  obtain ⟨r0, r0'⟩ := hr2.cell 0 (by simp)
  simp only [List.getElem_toArray, List.getElem_cons_zero, List.getElem_cons_succ] at n0 n1 n2 n3 n4 r0
  cases hd : decide (0 < nd.left 600) with
  | false =>
    gi_wp2
    refine ⟨trivial, rfl, ?_⟩
    refine (works_call S (hIW _ hbb2) (by omega)).mono ?_
    rintro e w3 ⟨rfl, hb3⟩
    have hr3 : Blk1 w3 (W.heap.size + 1) #[.bool false] 4 := (hb3.block _ (by omega)).trans hr2
    obtain ⟨q0, q0'⟩ := hr3.cell 0 (by simp)
    simp only [List.getElem_toArray, List.getElem_cons_zero] at q0
    clear n0 n1 n2 n3 n4 r0 r0'
    gi_wp2
    exact fin3 (hbb2.trans (hb3.mono (by omega))) hr3 trivial rfl
  | true =>
    have hle600 : nd.size ≤ 600 := hsz (by simpa using hd)
    gi_wp2
    refine ⟨trivial, rfl, ?_⟩
    refine (all_call S (hIW _ hbb2) (by omega) hf (by omega) (hR _ hbb2)).mono ?_
    rintro e w3 ⟨c, rfl, hb3, hc⟩
    obtain ⟨⟨L, lc, rfl, hlc1, hlc2, _, hrows⟩, _⟩ := hc
    have hll : (encNs nd.flat).length = nd.size := by rw [encNs_length, flat_size]
    rw [hll] at hlc1 ⊢
    clear n0 n1 n2 n3 n4 r0 r0'
    have hbb3 : Below W.heap.size W w3 := hbb2.trans (hb3.mono (by omega))
    have hz3 := hb3.size
    have hn3 : Blk1 w3 W.heap.size #[k, p, t, al, .slice A us.length cap] 25 := (hb3.block _ (by omega)).trans hn2
    have hr3 : Blk1 w3 (W.heap.size + 1) #[.bool false] 4 := (hb3.block _ (by omega)).trans hr2
    obtain ⟨w4, hw4⟩ : ∃ w4, w4 = (((w3.alloc (Obj.cells #[Value.slice L nd.size lc] 23)).alloc (Obj.cells #[Value.int IntKind.i64 (wrap64 (st % (nd.size + 1) + 1))] 3)).alloc (Obj.cells #[Value.int IntKind.i64 0] 3)) := ⟨_, rfl⟩
    have hk34 : Kept (fun _ => True) w3 w4 := by rw [hw4]; exact (((Kept.refl _ _).alloc _).alloc _).alloc _
    have hz4 : w4.heap.size = w3.heap.size + 3 := by rw [hw4]; simp
    have hn4 : Blk1 w4 W.heap.size #[k, p, t, al, .slice A us.length cap] 25 := (hk34.block _ (by omega) trivial).trans hn3
    have hr4 : Blk1 w4 (W.heap.size + 1) #[.bool false] 4 := (hk34.block _ (by omega) trivial).trans hr3
    have hl4 : Blk1 w4 w3.heap.size #[Value.slice L nd.size lc] 23 := by
      rw [hw4]
      exact (Below.heap_alloc _ _ _ (by simp; omega)).trans ((Below.heap_alloc _ _ _ (by simp)).trans (World.alloc_heap_new _ _))
    have hm4 : Blk1 w4 (w3.heap.size + 1) #[Value.int IntKind.i64 (wrap64 (st % (nd.size + 1) + 1))] 3 := by
      rw [hw4]
      have := World.alloc_heap_new (w3.alloc (Obj.cells #[Value.slice L nd.size lc] 23)) (Obj.cells #[Value.int IntKind.i64 (wrap64 (st % (nd.size + 1) + 1))] 3)
      rw [World.size_alloc] at this
      exact (Below.heap_alloc _ _ _ (by simp)).trans this
    have hi4 : Blk1 w4 (w3.heap.size + 2) #[Value.int IntKind.i64 0] 3 := by
      rw [hw4]
      have := World.alloc_heap_new ((w3.alloc (Obj.cells #[Value.slice L nd.size lc] 23)).alloc (Obj.cells #[Value.int IntKind.i64 (wrap64 (st % (nd.size + 1) + 1))] 3)) (Obj.cells #[Value.int IntKind.i64 0] 3)
      rw [World.size_alloc, World.size_alloc] at this
      exact this
    have n0 := (hn4.cell 0 (by simp)).1
    have n1 := (hn4.cell 1 (by simp)).1
    have n2 := (hn4.cell 2 (by simp)).1
    have n3 := (hn4.cell 3 (by simp)).1
    have n4 := (hn4.cell 4 (by simp)).1
    simp only [List.getElem_toArray, List.getElem_cons_zero, List.getElem_cons_succ] at n0 n1 n2 n3 n4
    rw [hw4] at n0 n1 n2 n3 n4
    gi_wp2
    refine ⟨trivial, rfl, ?_⟩
    rw [← hw4]
    clear n0 n1 n2 n3 n4
    refine (each_call _ _ _ _ _ _ _ rfl).mono ?_
    rintro e w5 ⟨rfl, hw5⟩
    have fnil := func_nil (.func 26) #[] #[Value.pointer (some { block := w3.heap.size + 3, off := 0 })] w5
    have hz5 : w5.heap.size = w3.heap.size + 4 := by rw [hw5, World.size_alloc, hz4]
    have hk45 : Kept (fun _ => True) w4 w5 := by rw [hw5]; exact (Kept.refl _ _).alloc _
    have hbx5 : Blk1 w5 (w3.heap.size + 3) #[k, p, t, al, .slice A us.length cap] 25 := by
      rw [hw5, ← hz4]; exact World.alloc_heap_new _ _
    have hk5 : Kept (fun _ => True) w3 w5 := hk34.trans hk45
    have hk05 : Kept (fun k => k < W.heap.size) W w5 := (Kept.of_below hbb3 fun k _ h => h).trans (hk5.mono fun _ _ _ => trivial)
    have hr5 : Blk1 w5 (W.heap.size + 1) #[.bool false] 4 := (hk45.block _ (by omega) trivial).trans hr4
    have hl5 : Blk1 w5 w3.heap.size #[Value.slice L nd.size lc] 23 := (hk45.block _ (by omega) trivial).trans hl4
    have hm5 : Blk1 w5 (w3.heap.size + 1) #[Value.int IntKind.i64 (wrap64 (st % (nd.size + 1) + 1))] 3 := (hk45.block _ (by omega) trivial).trans hm4
    have hi5 : Blk1 w5 (w3.heap.size + 2) #[Value.int IntKind.i64 0] 3 := (hk45.block _ (by omega) trivial).trans hi4
    clear hw4 hw5
    rw [hz4]
    gi_wp2
    clear fnil
    obtain ⟨mo, hmo, hmo1, hmo2⟩ : ∃ mo : Nat, wrap64 (st % (nd.size + 1) + 1) = (mo : Int) ∧ 1 ≤ mo ∧ mo ≤ nd.size + 1 := by
      have h1 : 0 ≤ st % ((nd.size : Int) + 1) := Int.emod_nonneg _ (by omega)
      have h2 : st % ((nd.size : Int) + 1) < (nd.size : Int) + 1 := Int.emod_lt_of_pos _ (by omega)
      refine ⟨(st % ((nd.size : Int) + 1) + 1).toNat, ?_, by omega, by omega⟩
      unfold wrap64
      omega
    rw [hmo] at hm5
    have hTl : (VT.mk (.agg #[k, p, t, al, .slice A us.length cap]) us).flat.length = nd.size := by rw [← (all2_get (mt_flat hmt)).1, flat_size]
    refine wp_rangeSeq (S := fun k => k ≠ w3.heap.size + 2 ∧ k ≠ W.heap.size + 1) (T := (VT.mk (.agg #[k, p, t, al, .slice A us.length cap]) us).flat) (gf := 26) (lb := #[.pointer (some ⟨w3.heap.size + 3, 0, none⟩)]) rfl (enters_of Try.func26 (by kernel_rfl) rfl) (fun k hk => ⟨by omega, by omega⟩) ?seq
      (fun xs X => Blk1 X (w3.heap.size + 1 + 1) #[.int .i64 xs.length] 3 ∧ Blk1 X (W.heap.size + 1) #[.bool false] 4 ∧ xs.length < mo)
      (fun c xs X => c = .exit 0 ∧ Blk1 X (w3.heap.size + 1 + 1) #[.int .i64 xs.length] 3 ∧ Blk1 X (W.heap.size + 1) #[.bool false] 4 ∧ xs.length = mo)
      (fun s => Abide.and (Abide.obj (by omega)) (Abide.and (Abide.obj (by omega)) (fun _ _ h _ _ => h))) (fun c s => Abide.and (fun _ _ h _ _ => h) (Abide.and (Abide.obj (by omega)) (Abide.and (Abide.obj (by omega)) (fun _ _ h _ _ => h)))) ?j0 ?rnd ?done ?stop
    case j0 => exact ⟨hi5, hr5, by simp; omega⟩
    case seq =>
      intro W6 hk6 hz6
      refine each_seq _ _ W6 (w3.heap.size + 3) (fun j hj => ?_) ⟨⟨by omega, by omega⟩, by omega⟩ (by omega) ?_
      · rw [Addr.add_lit, Nat.zero_add, hk6.cell (a := ⟨w3.heap.size + 3, j, none⟩) (by show w3.heap.size + 3 < _; omega) trivial]
        rw [(hbx5.cell j hj).1]
        exact (List.getElem?_eq_getElem (l := [k, p, t, al, .slice A us.length cap]) hj).symm
      · exact (hin0.keep (hk05.trans (hk6.mono fun _ _ _ => trivial))).sub fun k _ hs => ⟨⟨by have hs : k < W.heap.size := hs; omega, by have hs : k < W.heap.size := hs; omega⟩, by have hs : k < W.heap.size := hs; omega⟩
    case rnd =>
      intro l2 pre x X ⟨hiX, hrX, hpm⟩ hkX hsX hpre
      obtain ⟨y0, y1, y2, y3, B', n', c', rfl, e0, e1, e2, e3⟩ := flat_agg hin0 x (pre_mem hpre)
      have s0 : ∀ (a : Addr) (m : Mode) (W : World), Sem.run Try.prog (store a y0 m) W = stored Try.prog W a y0 m := fun a m W => run_store Try.prog W a y0 m e0
      have s1 : ∀ (a : Addr) (m : Mode) (W : World), Sem.run Try.prog (store a y1 m) W = stored Try.prog W a y1 m := fun a m W => run_store Try.prog W a y1 m e1
      have s2 : ∀ (a : Addr) (m : Mode) (W : World), Sem.run Try.prog (store a y2 m) W = stored Try.prog W a y2 m := fun a m W => run_store Try.prog W a y2 m e2
      have s3 : ∀ (a : Addr) (m : Mode) (W : World), Sem.run Try.prog (store a y3 m) W = stored Try.prog W a y3 m := fun a m W => run_store Try.prog W a y3 m e3
      simp only [Array.zip_eq_zipWith, List.zipWith_toArray, List.zipWith_cons_cons, List.zipWith_nil_left, List.zipWith_nil_right, List.foldl_toArray, List.foldl_cons, List.foldl_nil, List.setIfInBounds_toArray, List.set_cons_succ, List.set_cons_zero]
      gi_wp2
      clear s0 s1 s2 s3
      have hkA : Kept (fun _ => True) X (X.alloc (Obj.cells #[y0, y1, y2, y3, Value.slice B' n' c'] 25)) := (Kept.refl _ _).alloc _
      refine ⟨hkA.mono fun _ _ _ => trivial, fun X2 hk3 => ?_⟩
      have hzA : (X.alloc (Obj.cells #[y0, y1, y2, y3, Value.slice B' n' c'] 25)).heap.size = X.heap.size + 1 := by simp
      have hn := World.alloc_heap_new X (Obj.cells #[y0, y1, y2, y3, Value.slice B' n' c'] 25)
      have hx2 : Blk1 X2 X.heap.size #[y0, y1, y2, y3, Value.slice B' n' c'] 25 := (hk3.block X.heap.size (by omega) (by omega)).trans hn
      have hsX2 := hk3.size
      have old : ∀ (b : Nat) c ty, b < w5.heap.size → Blk1 X b c ty → Blk1 X2 b c ty := fun b c ty hb h => (hk3.block b (by omega) (by omega)).trans ((hkA.block b (by omega) trivial).trans h)
      have keep : ∀ (b : Nat) c ty, b ≠ w3.heap.size + 2 → b ≠ W.heap.size + 1 → Blk1 w5 b c ty → Blk1 X2 b c ty := fun b c ty h1 h2 h => by
        have hb : b < w5.heap.size := (Array.getElem?_eq_some_iff.1 h).1
        exact old b c ty hb ((hkX.block b hb ⟨h1, h2⟩).trans h)
      have hi2 := old _ _ _ (by omega) hiX
      have hr2' := old _ _ _ (by omega) hrX
      have hl2 := keep _ _ _ (by omega) (by omega) hl5
      have hm2 := keep _ _ _ (by omega) (by omega) hm5
      have hlen : pre.length < nd.size := by
        have := (List.getElem?_eq_some_iff.1 (prefix_get hpre)).1
        omega
      have hflat : nd.flat ≠ [] := by rw [flat_eq]; simp
      obtain ⟨la, rfl, hrw⟩ := hrows (by rw [encNs_map]; simpa using hflat)
      obtain ⟨us2, hins2, hms2⟩ := vts_of (S := fun k => k < w3.heap.size) (fun _ h => h) nd.flat la hrw
      have hge : nd.flat[pre.length]? = some (nd.flat[pre.length]'(by rw [flat_size]; exact hlen)) := List.getElem?_eq_getElem _
      generalize nd.flat[pre.length]'(by rw [flat_size]; exact hlen) = ni at hge
      obtain ⟨ti, hti, hmi⟩ := mts_get hms2 hge
      have hbX : Below W.heap.size W X2 := by
        have h1 : Kept (fun k => k < W.heap.size) W X2 := (hk05.trans (hkX.mono fun k _ hs => ⟨by have hs : k < W.heap.size := hs; omega, by have hs : k < W.heap.size := hs; omega⟩)).trans ((hkA.mono fun _ _ _ => trivial).trans (hk3.mono fun k _ hs => by have hs : k < W.heap.size := hs; omega))
        exact h1.below (Nat.le_refl _) fun _ h => h
      have hb3X : Kept (fun k => k < w3.heap.size ∧ k ≠ W.heap.size + 1) w3 X2 := (hk5.mono fun _ _ _ => trivial).trans ((hkX.mono fun k _ hs => ⟨by omega, hs.2⟩).trans ((hkA.mono fun _ _ _ => trivial).trans (hk3.mono fun k _ hs => by omega)))
      have hb3Y : Below w3.heap.size w3 X2 := ⟨hb3X.os, hb3X.tape, hb3X.output, hb3X.size, fun k hk => by
        by_cases hk2 : k = W.heap.size + 1
        · subst hk2; exact hr2'.trans hr3.symm
        · exact hb3X.block k hk ⟨hk, hk2⟩⟩
      obtain ⟨q1, q2, q3, q4⟩ := ins_get hins2 hti
      have hry := rel_later (by simp [pureV, pure_encN]) hb3Y.drew (mt_rel hmi)
      have hrx : Rel (Go.Ai.start X2.drew) (.agg (encN ni)) (.agg #[y0, y1, y2, y3, .slice B' n' c']) := by
        refine rel_later (by simp [pureV, pure_encN]) hbX.drew ?_
        exact (all2_get (mt_flat hmt)).2 pre.length ni _ hge (prefix_get hpre)
      obtain ⟨z0, z1, z2, z3, B2, n2, c2, hti2, _⟩ := in_node q4
      rw [hti2] at q1 hry
      obtain ⟨bb, oo, ea, d0, d1, d2, d3, d4⟩ := five_agg q1
      have hbb : bb < w3.heap.size := lt_of_cell d0
      have mv : ∀ j v, w3.cell? ⟨bb, j, none⟩ = some v → X2.cell? ⟨bb, j, none⟩ = some v := fun j v h => (hb3Y.cell (p := ⟨bb, j, none⟩) hbb).trans h
      have d0 := mv _ _ d0
      have d1 := mv _ _ d1
      have d2 := mv _ _ d2
      have d3 := mv _ _ d3
      have d4 := mv _ _ d4
      obtain ⟨qi, qi'⟩ := hi2.cell 0 (by simp)
      obtain ⟨qr, qr'⟩ := hr2'.cell 0 (by simp)
      have ql := (hl2.cell 0 (by simp)).1
      have qm := (hm2.cell 0 (by simp)).1
      have x0 := (hx2.cell 0 (by simp)).1
      have x1 := (hx2.cell 1 (by simp)).1
      have x2 := (hx2.cell 2 (by simp)).1
      have x3 := (hx2.cell 3 (by simp)).1
      have x4 := (hx2.cell 4 (by simp)).1
      simp only [List.getElem_toArray, List.getElem_cons_zero, List.getElem_cons_succ] at qi qr ql qm x0 x1 x2 x3 x4
      have hmx : Try.prog.follows .mixedOrders = true := by kernel_rfl
      have hfi : ni.fit := fit_mem hf hge
      have hX2 := hIW X2.drew hbX.drew
      have hX2s : B0 ≤ X2.drew.heap.size := by show B0 ≤ X2.heap.size; omega
      have heq := equal_call S hX2 hX2s hfi hrx hry
      have hiX2 := hi2
      have hX2z : X.heap.size + 1 ≤ X2.heap.size := by omega
      clear q1 mv hkA hk3 hn hx2 old keep hi2 hl2 hm2 hrows hrw hins2 hms2 hmi hb3X q2 q3 q4 hti2 hti hzA hIW hR hk34 hk45 hbx5 hk5 hk05 hr5 hl5 hm5 hi5 hn4 hr4 hl4 hm4 hi4 hn3 hr3 hn2 hr2 hn1 hr1 hmt hin0 hin e0 e1 e2 e3 hiX hrX hkX
      gi_wp2
      have hfn : ∀ k, Fence.wide.fn k := fun _ => trivial
      have hdep : Fence.wide.depth = none := rfl
      apply wp_once (R := Below X2.drew.heap.size X2.drew)
      · gi_region_with_o (gi_at_call 11; refine (CallsIn.inRound l2 heq).mono ?_; rintro e X3 ⟨rfl, hb3⟩)
        all_goals exact ⟨rfl, hb3, rfl⟩
      · intro X3 hb3
        have hdr : X2.drew.heap = X2.heap := rfl
        rw [hdr] at hb3
        have hzX3 := hb3.size
        rw [hdr] at hzX3
        have c3 : ∀ (b : Nat) (v : Value), b < X2.heap.size → X2.cell? ⟨b, 0, none⟩ = some v → X3.cell? ⟨b, 0, none⟩ = some v := fun b v hb h => (hb3.cell (p := ⟨b, 0, none⟩) hb).trans h
        have hi3 : Blk1 X3 (w3.heap.size + 1 + 1) #[.int .i64 pre.length] 3 := (hb3.block _ (by omega)).trans hiX2
        have hr3' : Blk1 X3 (W.heap.size + 1) #[.bool false] 4 := (hb3.block _ (by omega)).trans hr2'
        have qi3 := c3 _ _ (by omega) qi
        have qm3 := c3 _ _ (by omega) qm
        have qi3' : X3.frozen? ⟨w3.heap.size + 1 + 1, 0, none⟩ = false := (hi3.cell 0 (by simp)).2
        have hwr : wrap64 ((pre.length : Int) + 1) = ((pre.length + 1 : Nat) : Int) := by unfold wrap64; omega
        have hnle : decide (nd.size ≤ pre.length) = false := by simp; omega
        rw [hnle]
        have hkr : Kept (fun _ => True) X2 X3 := (Kept.refl _ X2).drew.trans (Kept.of_below hb3 fun k hk _ => hk)
        clear qi ql qm x0 x1 x2 x3 x4 d0 d1 d2 d3 d4 heq hrx hry ea c3 hcap hle hlc1 hlc2 hsz hst hst2 hmo1 hmo2 hmo hle600 hB hX2s hpre hTl hll
        rw [← hdr] at hb3
        have hset : Blk1 (X3.setCell ⟨w3.heap.size + 1 + 1, 0, none⟩ (.int .i64 ((pre.length + 1 : Nat) : Int))) (w3.heap.size + 1 + 1) #[.int .i64 ((pre.length + 1 : Nat) : Int)] 3 := Boxed.set (t := 3) _ hi3
        have hset2 : Blk1 (X3.setCell ⟨w3.heap.size + 1 + 1, 0, none⟩ (.int .i64 ((pre.length + 1 : Nat) : Int))) (W.heap.size + 1) #[.bool false] 4 := (Below.heap_setCell _ _ _ _ (by show W.heap.size + 1 ≠ w3.heap.size + 1 + 1; omega)).trans hr3'
        have hset3 : Kept (fun k => k ≠ w3.heap.size + 2 ∧ k ≠ W.heap.size + 1) X2 (X3.setCell ⟨w3.heap.size + 1 + 1, 0, none⟩ (.int .i64 ((pre.length + 1 : Nat) : Int))) := (hkr.mono fun _ _ _ => trivial).setCell _ _ (.inl fun h => h.1 rfl)
        have hpl1 : ∀ v : Value, (pre ++ [v]).length = pre.length + 1 := fun v => by simp
        rw [← hwr] at hset hset2 hset3
        have HW : Hid (wrap64 ((pre.length : Int) + 1) = ((pre.length + 1 : Nat) : Int)) := hwr
        clear hwr
        gi_wp2
        · rename_i h
          have h' : wrap64 ((pre.length : Int) + 1) = (mo : Int) := of_decide_eq_true (by simpa only [beq_iff_eq, decide_eq_true_eq] using h)
          rw [HW.out] at h'
          have hm' : pre.length + 1 = mo := Int.ofNat_inj.1 h'
          refine ⟨hset3, rfl, ?_, hset2, (hpl1 _).trans hm'⟩
          rw [hpl1, ← HW.out]
          exact hset
        · rename_i h
          have h' : ¬ wrap64 ((pre.length : Int) + 1) = (mo : Int) := by simpa only [beq_eq_false_iff_ne, ne_eq] using h
          rw [HW.out] at h'
          have hm' : pre.length + 1 ≠ mo := fun e => h' (congrArg _ e)
          refine ⟨hset3, ?_, hset2, Nat.lt_of_le_of_ne (by rw [hpl1]; exact hpm) (by rw [hpl1]; exact hm')⟩
          rw [hpl1, ← HW.out]
          exact hset
    case done =>
      rintro D X hD ⟨hiX, hrX, hpm⟩ hkX hdef
      have hzX := hkX.size
      have hlX : Blk1 X w3.heap.size #[Value.slice L nd.size lc] 23 := (hkX.block _ (by omega) ⟨by omega, by omega⟩).trans hl5
      have hmX : Blk1 X (w3.heap.size + 1) #[Value.int IntKind.i64 mo] 3 := (hkX.block _ (by omega) ⟨by omega, by omega⟩).trans hm5
      rw [hTl] at hiX hpm
      obtain ⟨qi, _⟩ := hiX.cell 0 (by simp)
      obtain ⟨qr, qr'⟩ := hrX.cell 0 (by simp)
      have ql := (hlX.cell 0 (by simp)).1
      have qm := (hmX.cell 0 (by simp)).1
      simp only [List.getElem_toArray, List.getElem_cons_zero] at qi qr ql qm
      have hbX : Below W.heap.size W X := (hk05.trans (hkX.mono fun k _ hs => ⟨by have hs : k < W.heap.size := hs; omega, by have hs : k < W.heap.size := hs; omega⟩)).below (Nat.le_refl _) fun _ h => h
      have hmin : min (mo : Int) (nd.size : Int) = (nd.size : Int) := by omega
      gi_wp2
      refine ⟨trivial, rfl, ?_⟩
      refine (works_call S (hIW _ hbX) (by omega)).mono ?_
      rintro e X4 ⟨rfl, hb4⟩
      have hDX := (Array.getElem?_eq_some_iff.1 hdef).1
      have hr4' : Blk1 X4 (W.heap.size + 1) #[.bool false] 4 := (hb4.block _ (by omega)).trans hrX
      have hd4 := (hb4.block D hDX).trans hdef
      obtain ⟨qr4, qr4'⟩ := hr4'.cell 0 (by simp)
      simp only [List.getElem_toArray, List.getElem_cons_zero] at qr4
      clear qi qr ql qm hmin qr'
      gi_wp2
      exact fin3 (hbX.trans (hb4.mono (by omega))) hr4' ⟨⟨D, rfl, by omega, hd4, fun d' h => by cases h⟩, trivial⟩ rfl
    case stop =>
      rintro D c pre X hD hpre ⟨rfl, hiX, hrX, hpm⟩ hkX hdef
      have hzX := hkX.size
      have hlX : Blk1 X w3.heap.size #[Value.slice L nd.size lc] 23 := (hkX.block _ (by omega) ⟨by omega, by omega⟩).trans hl5
      have hmX : Blk1 X (w3.heap.size + 1) #[Value.int IntKind.i64 mo] 3 := (hkX.block _ (by omega) ⟨by omega, by omega⟩).trans hm5
      have hpl : pre.length ≤ nd.size := by have := hpre.length_le; omega
      rw [hpm] at hiX
      obtain ⟨qi, _⟩ := hiX.cell 0 (by simp)
      obtain ⟨qr, qr'⟩ := hrX.cell 0 (by simp)
      have ql := (hlX.cell 0 (by simp)).1
      have qm := (hmX.cell 0 (by simp)).1
      simp only [List.getElem_toArray, List.getElem_cons_zero] at qi qr ql qm
      have hbX : Below W.heap.size W X := (hk05.trans (hkX.mono fun k _ hs => ⟨by have hs : k < W.heap.size := hs; omega, by have hs : k < W.heap.size := hs; omega⟩)).below (Nat.le_refl _) fun _ h => h
      have hmin : min (mo : Int) (nd.size : Int) = (mo : Int) := by omega
      gi_wp2
      refine ⟨trivial, rfl, ?_⟩
      refine (works_call S (hIW _ hbX) (by omega)).mono ?_
      rintro e X4 ⟨rfl, hb4⟩
      have hDX := (Array.getElem?_eq_some_iff.1 hdef).1
      have hr4' : Blk1 X4 (W.heap.size + 1) #[.bool false] 4 := (hb4.block _ (by omega)).trans hrX
      have hd4 := (hb4.block D hDX).trans hdef
      obtain ⟨qr4, qr4'⟩ := hr4'.cell 0 (by simp)
      simp only [List.getElem_toArray, List.getElem_cons_zero] at qr4
      clear qi qr ql qm hmin qr'
      gi_wp2
      exact fin3 (hbX.trans (hb4.mono (by omega))) hr4' ⟨⟨D, rfl, by omega, hd4, fun d' h => by cases h⟩, trivial⟩ rfl
end Go.Proofs.Ytpfbpidlglelgaa
end
