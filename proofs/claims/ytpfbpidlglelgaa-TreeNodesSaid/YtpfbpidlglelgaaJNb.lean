/-
  esitree.Each: its iterator hands on a tree's nodes.
  esitree.Each: what its iterator answers for: a tree's nodes in order, as many as the rounds let.
-/
import Derived.Test.YtpfbpidlglelgaaCfg
import Derived.Test.YtpfbpidlglelgaaJNa
import Derived.OwnWalkIn
import Derived.TacticsInMore
import Derived.WalkKit
import Derived.ProofKit
section
namespace Go.Proofs.Ytpfbpidlglelgaa
open Go.Ai Go Go.RowKit
set_option linter.unusedSimpArgs false
set_option linter.unusedVariables false
set_option maxRecDepth 100000
attribute [local go_sem] Oper.semAt_some
theorem each_call (v : Value) (w : World) (k p t al s : Value) (hv : v = .agg #[k, p, t, al, s]) : CallsIn Fence.wide 0 Try.prog 10 #[v] w fun e w' => e = .returned (.func (.func 26) #[] #[.pointer (some ⟨w.heap.size, 0, none⟩)]) ∧ w' = w.alloc (.cells #[k, p, t, al, s] 25) := by
  subst hv
  refine callsIn_of_wp Try.func10 rfl trivial ?_ rfl
  simp only [Try.ntmps10, List.size_toArray, List.length_cons, List.length_nil, Nat.reduceAdd, Nat.reduceSub, Array.replicate_succ, Array.replicate_zero, List.push_toArray, List.append_toArray, List.nil_append, List.cons_append]
  gi_wp2
  go_ret
  exact ⟨rfl, rfl⟩
end Go.Proofs.Ytpfbpidlglelgaa
end

section
namespace Go.Proofs.Ytpfbpidlglelgaa
open Go.Ai Go Go.RowKit
set_option linter.unusedSimpArgs false
set_option linter.unusedVariables false
set_option maxRecDepth 100000
attribute [local go_sem] Oper.semAt_some
/-- What Each's iterator answers for. -/
def Stmt (T : VT) : Prop := ∀ (S : Nat → Prop) (W : World) (Bt : Nat), Five W ⟨Bt, 0, none⟩ T.val → S Bt → Bt < W.heap.size → T.In S W → SeqX Try.prog 26 #[.pointer (some ⟨Bt, 0, none⟩)] S T.flat W

theorem core (v : Value) (us : List VT) (ih : ∀ t ∈ us, Stmt t) : Stmt (.mk v us) := by
  intro S W Bt hfive hSB hlt ⟨k, p, t, al, A, cap, hv, o0, o1, o2, o3, hle, hcap, hin⟩ l J Jx hJ hJx hS hY h0
  obtain rfl : v = .agg #[k, p, t, al, .slice A us.length cap] := hv
  obtain ⟨W1, hW1⟩ : ∃ W1, W1 = W.alloc (Obj.cells #[Value.func (Fn.yield l) #[] #[]] 27) := ⟨_, rfl⟩
  have hk1 : Kept (fun _ => True) W W1 := by rw [hW1]; exact (Kept.refl _ _).alloc _
  have hs1 : W1.heap.size = W.heap.size + 1 := by rw [hW1]; simp
  have hcell : ∀ i, i < 5 → W1.cell? ⟨Bt, i, none⟩ = (fives (.agg #[k, p, t, al, .slice A us.length cap]))[i]? := fun i hi => by
    rw [hk1.cell (a := ⟨Bt, i, none⟩) hlt trivial]
    have := hfive i hi
    rwa [Addr.add_lit, Nat.zero_add] at this
  have c0 : W1.cell? ⟨Bt, 0, none⟩ = some k := hcell 0 (by omega)
  have c1 : W1.cell? ⟨Bt, 1, none⟩ = some p := hcell 1 (by omega)
  have c2 : W1.cell? ⟨Bt, 2, none⟩ = some t := hcell 2 (by omega)
  have c3 : W1.cell? ⟨Bt, 3, none⟩ = some al := hcell 3 (by omega)
  have c4 : W1.cell? ⟨Bt, 4, none⟩ = some (.slice A us.length cap) := hcell 4 (by omega)
  have hJ1 : J [] W1 := hJ _ _ _ h0 (Nat.le_refl _) (hk1.mono fun _ _ _ => trivial)
  obtain ⟨fn, tmps, assign, body, hy, hR0⟩ := hY [] (.agg #[k, p, t, al, .slice A us.length cap]) W1 hJ1 (by omega) (by simp [VT.flat])
  have hR := hR0.mono (R' := fun e W2 => (e = .returned (.bool true) ∧ J [.agg #[k, p, t, al, .slice A us.length cap]] W2 ∧ Kept S W1 W2 ∧ W2.cell? ⟨Bt, 4, none⟩ = some (.slice A us.length cap)) ∨ (e = .returned (.bool false) ∧ Jx [.agg #[k, p, t, al, .slice A us.length cap]] W2 ∧ Kept S W1 W2)) (by
    rintro e W2 ⟨hk, ⟨rfl, hj⟩ | ⟨rfl, hx⟩⟩
    · exact .inl ⟨rfl, hj, hk, (hk.cell (a := ⟨Bt, 4, none⟩) (by show Bt < _; omega) hSB).trans c4⟩
    · exact .inr ⟨rfl, hx, hk⟩)
  clear hR0 hcell
  have hyl : W1.cell? ⟨W.heap.size, 0, none⟩ = some (.func (.yield l) #[] #[]) := by
    have := World.alloc_heap_new W (Obj.cells #[Value.func (Fn.yield l) #[] #[]] 27)
    rw [← hW1] at this
    simp [World.cell?, this]
  refine callsIn_of_wp_marks Try.func26 rfl trivial ?_
  simp only [Try.ntmps26, List.size_toArray, List.length_cons, List.length_nil, Nat.reduceAdd, Nat.reduceSub, Array.replicate_succ, Array.replicate_zero, List.push_toArray, List.append_toArray, List.nil_append, List.cons_append]
  subst hW1
  clear hk1
  gi_wp2_with ((try refine ⟨rfl, ?_⟩); refine hR.mono ?_; clear hR; rintro e W2 (⟨rfl, hJ2, hK2, c4'⟩ | ⟨rfl, hx2, hK2⟩))
  rotate_left
  · refine leaves_marks (b := W.heap.size) [] W2 (by have := hK2.size; omega) trivial fun w' hw => ?_
    refine ⟨_, results_none rfl _ _ _, ⟨_, rfl⟩, .inr ⟨_, ?_, hJx _ _ _ hx2 (by have := hK2.size; omega) hw⟩⟩
    simp [VT.flat]
  have hU0 : Kept S W (W.alloc (Obj.cells #[Value.func (Fn.yield l) #[] #[]] 27)) := (Kept.refl _ _).alloc _
  obtain ⟨W1, hW1⟩ : ∃ W1, W1 = W.alloc (Obj.cells #[Value.func (Fn.yield l) #[] #[]] 27) := ⟨_, rfl⟩
  rw [← hW1] at hK2 hyl hs1 hU0
  clear c0 c1 c2 c3 c4 c4' hJ1 hy hW1
  refine wpIn_loop (fun a w' => ∃ (i : Nat) (ds : List Deferred) (u3 u4 u5 u6 u7 u8 u9 u10 u14 u15 u16 u17 u18 u19 u20 u21 u22 u23 u24 : Value), i ≤ us.length ∧ a = (⟨#[Value.func (Fn.yield l) #[] #[], Value.pointer (some { block := Bt, off := 0 }),
          Value.pointer (some { block := W.heap.size, off := 0 }), u3, u4, u5, u6, u7, u8, u9, u10, Value.slice A us.length cap, Value.int IntKind.i64 us.length,
          Value.int IntKind.i64 i, u14, u15, u16, u17, u18, u19, u20, u21, u22, u23, u24], ds⟩ : Act) ∧ J (.agg #[k, p, t, al, .slice A us.length cap] :: VT.flats (us.take i)) w' ∧ Kept S W1 w' ∧ Marks W.heap.size w' ds)
    (fun a _ => us.length - (intOf (a.tmps.getD 13 undef)).toNat) ?h0 ?round
  case h0 =>
    exact ⟨0, [], _, _, _, _, _, _, _, _, _, _, _, _, _, _, _, _, _, _, _, Nat.zero_le _, rfl, by simpa [VT.flats] using hJ2, hK2, trivial⟩
  case round =>
    rintro a w' ⟨i, ds, u3, u4, u5, u6, u7, u8, u9, u10, u14, u15, u16, u17, u18, u19, u20, u21, u22, u23, u24, hi, rfl, hj, hkw, hm⟩
    by_cases hil : i < us.length
    · obtain ⟨a, rfl, hins⟩ := hin (by rintro rfl; simp at hil)
      have hT : us[i]? = some us[i] := List.getElem?_eq_getElem hil
      have hkW : Kept S W w' := hU0.trans (hkw.mono fun _ _ h => h)
      obtain ⟨q1, q2, q3, q4⟩ := ins_get (hins.keep hkW) hT
      have hih := ih us[i] (List.mem_of_getElem? hT)
      generalize us[i] = kid at hT q1 q4 hih
      obtain ⟨kv, ks⟩ := kid
      have q4' := q4
      obtain ⟨x0, x1, x2, x3, B, kc, rfl, z0, z1, z2, z3, _, _, _⟩ := q4'
      obtain ⟨bb, oo, ea, d0, d1, d2, d3, d4⟩ := five_agg q1
      have hyl' : w'.cell? ⟨W.heap.size, 0, none⟩ = some (.func (.yield l) #[] #[]) := (hkw.cell (a := ⟨W.heap.size, 0, none⟩) (by show W.heap.size < _; omega) (hS _ (Nat.le_refl _))).trans hyl
      have hin' := hin
      have s0 : ∀ (a : Addr) (m : Mode) (W : World), Sem.run Try.prog (store a x0 m) W = stored Try.prog W a x0 m := fun a m W => run_store Try.prog W a x0 m (by simpa [Value.oneCell'] using z0)
      have s1 : ∀ (a : Addr) (m : Mode) (W : World), Sem.run Try.prog (store a x1 m) W = stored Try.prog W a x1 m := fun a m W => run_store Try.prog W a x1 m (by simpa [Value.oneCell'] using z1)
      have s2 : ∀ (a : Addr) (m : Mode) (W : World), Sem.run Try.prog (store a x2 m) W = stored Try.prog W a x2 m := fun a m W => run_store Try.prog W a x2 m (by simpa [Value.oneCell'] using z2)
      have s3 : ∀ (a : Addr) (m : Mode) (W : World), Sem.run Try.prog (store a x3 m) W = stored Try.prog W a x3 m := fun a m W => run_store Try.prog W a x3 m (by simpa [Value.oneCell'] using z3)
      clear q1 hin
      gi_wp2
      refine ⟨trivial, rfl, ?_⟩
      refine (each_call _ _ _ _ _ _ _ rfl).mono ?_
      rintro e w2 ⟨rfl, hw2⟩
      gi_wp2
      have hk2 : Kept (fun _ => True) w' w2 := by rw [hw2]; exact ((Kept.refl _ _).alloc _).alloc _
      have hz2 : w2.heap.size = w'.heap.size + 2 := by rw [hw2]; simp
      have hwW : W.heap.size + 1 ≤ w'.heap.size := by have := hkw.size; omega
      have hfv : Five w2 ⟨w'.heap.size + 1, 0, none⟩ (.agg #[x0, x1, x2, x3, .slice B ks.length kc]) := by
        intro j hj
        have hn := World.alloc_heap_new (w'.alloc (Obj.cells #[x0, x1, x2, x3, Value.slice B ks.length kc] 25)) (Obj.cells #[x0, x1, x2, x3, Value.slice B ks.length kc] 25)
        rw [← hw2, World.size_alloc] at hn
        rw [Addr.add_lit, Nat.zero_add]
        simp [World.cell?, hn, fives]
      rw [← hw2]
      clear hw2 s0 s1 s2 s3 d0 d1 d2 d3 d4 ea
      obtain ⟨hfl1, rr, hfl2⟩ := flats_take hT
      refine wp_rangeSeq (S := S) (T := (VT.mk (.agg #[x0, x1, x2, x3, .slice B ks.length kc]) ks).flat) (gf := 26) (lb := #[.pointer (some ⟨w'.heap.size + 1, 0, none⟩)]) rfl (enters_of Try.func26 (by kernel_rfl) rfl) (fun k hk => hS k (by omega)) ?seq
        (fun xs w => J (.agg #[k, p, t, al, .slice (some a) us.length cap] :: VT.flats (us.take i) ++ xs) w) (fun c xs w => c = .ret ∧ Jx (.agg #[k, p, t, al, .slice (some a) us.length cap] :: VT.flats (us.take i) ++ xs) w)
        (fun s => (hJ _).le (by omega)) (fun c s X Y h hs hk => ⟨h.1, (hJx _).le (b' := w2.heap.size) (by omega) X Y h.2 hs hk⟩) ?j0 ?rnd ?done ?stop
      case j0 =>
        have := hJ _ _ _ hj (by omega) (hk2.mono fun _ _ _ => trivial)
        simpa using this
      case seq =>
        intro W3 hk3 hz3
        have hk23 := hk2.trans hk3
        refine hih _ W3 (w'.heap.size + 1) (fun j hj => ?_) ⟨hS _ (by omega), by omega⟩ (by omega) ?_
        · rw [Addr.add_lit, hk3.cell (a := ⟨w'.heap.size + 1, 0 + j, none⟩) (by show w'.heap.size + 1 < _; omega) trivial, ← Addr.add_lit]
          exact hfv j hj
        · exact ((q4.sub (S' := fun k => S k ∧ k < w'.heap.size) fun k hk hs => ⟨hs, hk⟩).keep (hk23.mono fun _ _ _ => trivial)).sub fun k _ hs => ⟨hs.1, by omega⟩
      case rnd =>
        intro l2 pre x X hIX hkX hsX hpre
        obtain ⟨y0, y1, y2, y3, B', n', c', rfl, e0, e1, e2, e3⟩ := flat_agg q4 x (pre_mem hpre)
        have s0 : ∀ (a : Addr) (m : Mode) (W : World), Sem.run Try.prog (store a y0 m) W = stored Try.prog W a y0 m := fun a m W => run_store Try.prog W a y0 m e0
        have s1 : ∀ (a : Addr) (m : Mode) (W : World), Sem.run Try.prog (store a y1 m) W = stored Try.prog W a y1 m := fun a m W => run_store Try.prog W a y1 m e1
        have s2 : ∀ (a : Addr) (m : Mode) (W : World), Sem.run Try.prog (store a y2 m) W = stored Try.prog W a y2 m := fun a m W => run_store Try.prog W a y2 m e2
        have s3 : ∀ (a : Addr) (m : Mode) (W : World), Sem.run Try.prog (store a y3 m) W = stored Try.prog W a y3 m := fun a m W => run_store Try.prog W a y3 m e3
        have hylq := Hid.out (show Hid _ from hyl')
        clear hyl' hyl
        simp only [Array.zip_eq_zipWith, List.zipWith_toArray, List.zipWith_cons_cons, List.zipWith_nil_left, List.zipWith_nil_right, List.foldl_toArray, List.foldl_cons, List.foldl_nil, List.setIfInBounds_toArray, List.set_cons_succ, List.set_cons_zero]
        gi_wp2
        have hkA : Kept (fun _ => True) X (X.alloc (Obj.cells #[y0, y1, y2, y3, Value.slice B' n' c'] 25)) := (Kept.refl _ _).alloc _
        refine ⟨hkA.mono fun _ _ _ => trivial, fun X2 hk3 => ?_⟩
        have hzA : (X.alloc (Obj.cells #[y0, y1, y2, y3, Value.slice B' n' c'] 25)).heap.size = X.heap.size + 1 := by simp
        have hn := World.alloc_heap_new X (Obj.cells #[y0, y1, y2, y3, Value.slice B' n' c'] 25)
        have hn2 := (hk3.block X.heap.size (by omega) (by omega)).trans hn
        have d0 : X2.cell? ⟨X.heap.size, 0, none⟩ = some y0 := by simp [World.cell?, hn2]
        have d1 : X2.cell? ⟨X.heap.size, 1, none⟩ = some y1 := by simp [World.cell?, hn2]
        have d2 : X2.cell? ⟨X.heap.size, 2, none⟩ = some y2 := by simp [World.cell?, hn2]
        have d3 : X2.cell? ⟨X.heap.size, 3, none⟩ = some y3 := by simp [World.cell?, hn2]
        have d4 : X2.cell? ⟨X.heap.size, 4, none⟩ = some (Value.slice B' n' c') := by simp [World.cell?, hn2]
        have hz2' := hkX.size
        have hyl2 : X2.cell? ⟨W.heap.size, 0, none⟩ = some (.func (.yield l) #[] #[]) := by
          rw [hk3.cell (a := ⟨W.heap.size, 0, none⟩) (by show W.heap.size < _; omega) (by show W.heap.size ≠ _; omega), hkA.cell (a := ⟨W.heap.size, 0, none⟩) (by show W.heap.size < _; omega) trivial, hkX.cell (a := ⟨W.heap.size, 0, none⟩) (by show W.heap.size < _; omega) (hS _ (Nat.le_refl _)), hk2.cell (a := ⟨W.heap.size, 0, none⟩) (by show W.heap.size < _; omega) trivial]
          exact hylq
        have hJX2 := hJ _ X X2 hIX (by omega) ((hkA.mono fun _ _ _ => trivial).trans (hk3.mono fun k _ hk => by have hk : k < W.heap.size := hk; omega))
        obtain ⟨fn2, tmps2, assign2, body2, hy2, hR0⟩   := hY _ (.agg #[y0, y1, y2, y3, .slice B' n' c']) X2 hJX2 (by have := hk3.size; omega) (by
          obtain ⟨r1, hr1⟩ := hpre
          refine ⟨r1 ++ rr, ?_⟩
          show _ = _ :: VT.flats us
          rw [hfl2, ← hr1]
          simp only [List.append_assoc, List.cons_append])
        have hR := hR0
        clear hR0 hn hn2 hY hih ih hin' hins
        gi_wp2_with ((try refine ⟨rfl, ?_⟩); refine hR.mono ?_; clear hR; rintro e W2 ⟨hKr, (⟨rfl, hJ2⟩ | ⟨rfl, hx2⟩)⟩)
        · exact ⟨hKr, by simpa only [List.append_assoc] using hJ2⟩
        · exact ⟨hKr, rfl, by simpa only [List.append_assoc] using hx2⟩
      case done =>
        intro D X hD hIX hkX hdef
        have hwr : wrap64 ((i : Int) + 1) = ((i + 1 : Nat) : Int) := by
          have : (i : Int) + 1 ≤ 9223372036854775807 := by unfold maxLen at hcap; omega
          unfold wrap64
          omega
        gi_wp2
        rw [hwr]
        have hkq : Kept S w' X := (hk2.mono fun _ _ _ => trivial).trans hkX
        refine ⟨⟨i + 1, _, _, _, _, _, _, _, _, _, _, _, _, _, _, _, _, _, _, _, _, hil, rfl, ?_, hkw.trans hkq, ⟨D, rfl, by omega, hdef, fun d' hd' he => ?_⟩, hm.kept (b0 := 0) hkq hS⟩, ?_⟩
        · have := hIX
          simp only [List.cons_append, hfl1] at this
          exact this
        · obtain ⟨D', h1, h2⟩ := hm.lt d' hd'
          rw [h1] at he
          injection he with he
          omega
        · have key : ∀ (n i : Nat), i < n → n - (intOf (Value.int .i64 ((i + 1 : Nat) : Int))).toNat < n - (intOf (Value.int .i64 ((i : Nat) : Int))).toNat := fun n i h => by
            simp only [intOf, Int.toNat_natCast]
            omega
          exact key us.length i hil
      case stop =>
        rintro D c pre X hD hpre ⟨rfl, hx⟩ hkX hdef
        gi_wp2
        have hkq : Kept S w' X := (hk2.mono fun _ _ _ => trivial).trans hkX
        have hzX := hkX.size
        refine leaves_marks (b := W.heap.size) _ X (by omega) ⟨⟨D, rfl, by omega, hdef, fun d' hd' he => ?_⟩, hm.kept (b0 := 0) hkq hS⟩ fun w3 hw => ?_
        · obtain ⟨D', h1, h2⟩ := hm.lt d' hd'
          rw [h1] at he
          injection he with he
          omega
        · refine ⟨_, results_none rfl _ _ _, ⟨_, rfl⟩, .inr ⟨_, ?_, hJx _ _ _ hx (by omega) hw⟩⟩
          obtain ⟨r1, hr1⟩ := hpre
          refine ⟨r1 ++ rr, ?_⟩
          show _ = _ :: VT.flats us
          rw [hfl2, ← hr1]
          simp only [List.append_assoc, List.cons_append]
    · obtain rfl : i = us.length := by omega
      gi_wp2
      have hww : W.heap.size ≤ w'.heap.size := by have := hkw.size; omega
      refine leaves_marks (b := W.heap.size) ds w' hww hm fun w2 hw => ?_
      refine ⟨_, results_none rfl _ _ _, ⟨_, rfl⟩, .inl (hJ _ _ _ (by simpa [VT.flat] using hj) hww hw)⟩
mutual
theorem each_seq : ∀ T : VT, Stmt T
  | .mk v us => core v us (each_all us)
theorem each_all : ∀ us : List VT, ∀ t ∈ us, Stmt t
  | [], t, h => by cases h
  | u :: r, t, h => (List.mem_cons.1 h).elim (fun e => e ▸ each_seq u) (fun h => each_all r t h)
end
end Go.Proofs.Ytpfbpidlglelgaa
end
