/-
  Pieces of a page's text: hidden parts, raw texts, tags that close: contracts.
  Pieces of a page's text: an attribute of a tag: contract.
  Pieces of a page's text: a tag that opens: contract.
-/
import Derived.Test.YtolmmodgneodbaaDoorJEc
import Derived.Test.YtolmmodgneodbaaDoorJEa
section
namespace Go.Proofs.YtolmmodgneodbaaDoor
open Go.Ai Go Go.Ai.Ex
set_option linter.unusedSimpArgs false
set_option linter.unusedVariables false
set_option maxRecDepth 100000
theorem hf25 : heapFn cfg 25 Tryd.f25 := ⟨by kernel_rfl, by kernel_rfl, by kernel_rfl, by kernel_rfl, by kernel_rfl, by kernel_rfl⟩
theorem hf40 : heapFn cfg 40 Tryd.f40 := ⟨by kernel_rfl, by kernel_rfl, by kernel_rfl, by kernel_rfl, by kernel_rfl, by kernel_rfl⟩
theorem hf23 : heapFn cfg 23 Tryd.f23 := ⟨by kernel_rfl, by kernel_rfl, by kernel_rfl, by kernel_rfl, by kernel_rfl, by kernel_rfl⟩
theorem tab25 : TabPOk cfg pfE (ctabP [(27, addGC)] [(17, failC)]) := ctabP_ok (ctab_cons c27g ctab_nil) (tabP_cons c17 tabP_nil)
theorem c25 : COkP cfg pfE 25 hideTC := by
  refine cokP_heap hf25 fun vs h K KP ht => ?_
  obtain ⟨s, a, l, hid, ha, hs, hl, rfl, rfl, h1, h2⟩ := ht
  have e3 : IntKind.wrap .i64 ((a : Int) + 8) = ((a + 8 : Nat) : Int) := wrap_add (b := 8) (by omega)
  refine t25 tab25 (ifP_intro (fun x => ⟨a, 13, rfl, ?_⟩) fun x => ⟨s, a + 8, a, encTs l, a, 5, okG l, ha, hs, by omega, by rw [encTs_len]; exact Nat.le_trans hl hs, rfl, by rw [e3], ?_⟩)
  · rw [stripTs]
    exact h1 (by simpa using x) _ _ hid
  · have hk := h2 (by simp at x; omega)
    rw [encTs_app] at hk
    unfold row
    rw [strip_row0 _ (stripTs _ _ _) rfl rfl, len_app]
    unfold hX at hk
    rw [show encTs [(⟨5, [], [], cut s a (a + 8), a, a + 8⟩ : Tok)] = [row 5 [] [] none (cut s a (a + 8)) a ((a + 8 : Nat) : Int)] from rfl, len_app] at hk
    exact hk

/-! Where a text stands first -/
theorem idx_fnd : ∀ (s x : List UInt8) (i : Nat), idxB s x i = match fnd x s with | some n => ((n + i : Nat) : Int) | none => -1
  | [], x, i => by cases x <;> simp [idxB, fnd]
  | c :: r, x, i => by
    rw [idxB, fnd]
    cases h : x.isPrefixOf (c :: r) with
    | true => simp
    | false =>
      simp only [Bool.false_eq_true, if_false]
      rw [idx_fnd r x (i + 1)]
      cases fnd x r with
      | none => rfl
      | some n => simp only [Option.map_some]; congr 1; omega
theorem idx0_fnd (s x : List UInt8) : idxB s x 0 = match fnd x s with | some n => (n : Int) | none => -1 := by
  rw [idx_fnd]
  cases fnd x s <;> rfl
theorem tab40 : TabPOk cfg pfE (ctabP [(27, addRC), (33, ixSC)] [(17, failC)]) := ctabP_ok (ctab_cons c27r (ctab_cons c33 ctab_nil)) (tabP_cons c17 tabP_nil)
theorem okT {k : Int} {nm : List UInt8} {l : List Att} {L : List (List AV)} (hL : ∀ n g, 9 ≤ n → stripss n g L = L) : Keep.okX (rT k nm (encAs l)) L := fun n g hn => by
  refine ⟨?_, hL n g hn⟩
  simp only [rT, List.map_cons, List.map_nil, stripB, strips, strip, stripAs, blt6 hn, cond_true]
theorem okTG {k : Int} {nm : List UInt8} {l : List Att} {L : List (List AV)} (hL : ∀ n g, 9 ≤ n → stripss n g L = L) : Keep.okX (rT k nm (encAs l) ++ [.grow 0 3 40]) L := fun n g hn => by
  simp only [rT, List.cons_append, List.nil_append, List.length_cons, List.length_nil] at hn
  refine ⟨?_, hL n g (by omega)⟩
  simp only [rT, List.cons_append, List.nil_append, List.map_cons, List.map_nil, stripB, strips, strip, stripAs, blt6 (show 9 ≤ n by omega), cond_true]
theorem okA {k : Int} {nm an av : List UInt8} {aa : Int} {l : List Att} {L : List (List AV)} (hL : ∀ n g, 9 ≤ n → stripss n g L = L) : Keep.okX (rA k nm (encAs l) an av aa) L := fun n g hn => by
  simp only [rA, rT, List.cons_append, List.nil_append, List.length_cons, List.length_nil] at hn
  refine ⟨?_, hL n g (by omega)⟩
  simp only [rA, rT, List.cons_append, List.nil_append, List.map_cons, List.map_nil, stripB, strips, strip, stripAs, blt6 (show 9 ≤ n by omega), cond_true]
theorem ok_rows {r : Hp} {k : Int} {nm : List UInt8} {l : List Att} {L : List (List AV)} (h : Keep.okX (rT k nm (encAs l)) L) : ∀ n g, 9 ≤ n → stripss n g L = L := fun n g hn => (h n g hn).2
theorem fnd_lt {x s : List UInt8} {n : Nat} (h : fnd x s = some n) : n + x.length ≤ s.length := fnd_le h
theorem c40 : COkP cfg pfE 40 rawTC := by
  refine cokP_heap hf40 fun vs h K KP ht => ?_
  obtain ⟨s, a, tag, L, hid, k, nm, l, hok, ha, hs, hl, hn, rfl, rfl, h1, h2⟩ := ht
  have hL := ok_rows (r := []) hok
  obtain ⟨e1, e2⟩ := cut_from s ha
  have hfin : ∀ n, fnd (closesS ++ nm) (s.drop a) = some n → (fnd opensS ((s.drop a).take n) = none ∨ nm ≠ removeS) → ∃ (s9 : List UInt8) (a10 fr11 : Nat) (L12 : List (List AV)) (hid13 k14 : Int) (nm15 : List UInt8) (l16 : List Att), Keep.okX (rT k14 nm15 (encAs l16) ++ [Blk.grow 0 3 40]) L12 ∧ a10 ≤ s9.length ∧ s9.length ≤ 1000000 ∧ fr11 ≤ a10 ∧ L12.length ≤ 1000000 ∧
      [AV.ptr 5 0, AV.agg [.int .i64 7, AV.str [], AV.sl 3 [] (some 9), AV.str [], .int .i64 0, .int .i64 0], .int .i64 (a : Int)] = [AV.ptr 5 0, AV.agg [.int .i64 7, AV.str [], AV.sl 3 [] (some 9), AV.str [], .int .i64 0, .int .i64 0], .int .i64 (fr11 : Int)] ∧
      hTG s ((a + n : Nat) : Int) L hid k nm (encAs l) = hTG s9 a10 L12 hid13 k14 nm15 (encAs l16) ∧ K (.tup []) [.grow 0 6 32, .mem 23 [.sl 6 [] (some 0)], .mem 3 [.int .i64 0], .mem 24 [.int .i64 0], .grow (L12 ++ [row 7 [] [] (some 9) (cut s9 fr11 a10) fr11 a10]).length 6 32,
        .mem 45 [.str s9, .int .i64 a10, .sl 6 (stripss 9 [.grow 0 6 32, .mem 23 [.sl 6 [] (some 0)], .mem 3 [.int .i64 0], .mem 24 [.int .i64 0], .grow (L12 ++ [row 7 [] [] (some 9) (cut s9 fr11 a10) fr11 a10]).length 6 32, .mem 45 [.str s9, .int .i64 a10, .sl 6 (L12 ++ [row 7 [] [] (some 9) (cut s9 fr11 a10) fr11 a10]) (some 4), .int .i64 hid13],
          .grow (encAs l16).length 3 40, .grow 0 3 40, .mem 32 [.int .i64 k14, .str nm15, .sl 3 (encAs l16) (some 6), .str [], .int .i64 0, .int .i64 0], .grow 0 3 40] (L12 ++ [row 7 [] [] (some 9) (cut s9 fr11 a10) fr11 a10])) (some 4), .int .i64 hid13], .grow (encAs l16).length 3 40, .grow 0 3 40, .mem 32 [.int .i64 k14, .str nm15, .sl 3 (encAs l16) (some 6), .str [], .int .i64 0, .int .i64 0]] := by
    intro n hf hno
    have hle := fnd_lt hf
    rw [List.length_drop, List.length_append] at hle
    refine ⟨s, a + n, a, L, hid, k, nm, l, okTG hL, by omega, hs, by omega, hl, rfl, rfl, ?_⟩
    have hk := (h2 n hf).2 hno
    unfold row
    rw [strip_row0 _ (hL 9 _ (Nat.le_refl _)) rfl rfl, len_app]
    rw [show (s.drop a).take n = cut s a (a + n) from cut_take.symm] at hk
    unfold hTg row at hk
    rw [len_app] at hk
    exact hk
  refine t40 tab40 (gAnd_intro e2 (gAnd_intro (decide_eq_true (by unfold limE at hn; omega)) ⟨s.drop a, closesS ++ nm, by rw [List.length_drop]; unfold limE at hs; omega, by rw [e1]; rfl, ?_⟩))
  simp only [stripAs, fun g => hL 9 g (Nat.le_refl 9)]
  rw [idx0_fnd]
  cases hf : fnd (closesS ++ nm) (s.drop a) with
  | none => exact ifP_intro (fun _ => ⟨tag, 14, rfl, h1 hf _ _ _⟩) fun x => by simp at x
  | some n =>
    have hle := fnd_lt hf
    rw [List.length_drop, List.length_append] at hle
    have ew : IntKind.wrap .i64 ((a : Int) + (n : Int)) = ((a + n : Nat) : Int) := wrap_add (by omega)
    refine ifP_intro (fun x => by simp at x; omega) fun _ => ?_
    simp only [ew]
    obtain ⟨q1, q2⟩ := cut_cutL s (show a ≤ a + n by omega) (show a + n ≤ s.length by omega)
    rw [cut_take] at q1
    refine gAnd_intro q2 ⟨(s.drop a).take n, opensS, by rw [List.length_take, List.length_drop]; unfold limE at hs; omega, by rw [q1]; rfl, ?_⟩
    rw [idx0_fnd]
    cases hj : fnd opensS ((s.drop a).take n) with
    | none => exact ifP_intro (fun x => by simp at x) fun _ => hfin n hf (.inl hj)
    | some j =>
      have hle2 := fnd_lt hj
      rw [List.length_take, List.length_drop] at hle2
      have ej : IntKind.wrap .i64 ((a : Int) + (j : Int)) = ((a + j : Nat) : Int) := wrap_add (by omega)
      refine ifP_intro (fun _ => ifP_intro (fun y => ⟨_, 13, rfl, ?_⟩) fun y => hfin n hf (.inr (by simpa [removeS] using y))) fun x => by simp at x
      rw [ej]
      exact (h2 n hf).1 j hj (by simpa [removeS] using y) _ _ _

theorem stripss_len (n : Nat) (g : Hp) : ∀ L : List (List AV), (stripss n g L).length = L.length
  | [] => rfl
  | x :: r => by rw [stripss, List.length_cons, List.length_cons, stripss_len n g r]
/-- Where a callee has given up, so may its caller. -/
theorem pan_up {s : List UInt8} {KP : PX → Hp → Prop} {x : PX} (h : PanX [] s KP x) (a : Int) (L : List (List AV)) (hid : Int) (g : Hp) : KP x [.grow 0 6 32, .mem 23 [.sl 6 [] (some 0)], .mem 3 [.int .i64 0], .mem 24 [.int .i64 0], .grow L.length 6 32, .mem 45 [.str s, .int .i64 a, .sl 6 (stripss 6 g L) (some 4), .int .i64 hid]] := by
  have := h a (stripss 6 g L) hid
  unfold hX at this
  rw [stripss_len] at this
  exact this
theorem pan_at {s : List UInt8} {KP : PX → Hp → Prop} {x : PX} (h : PanX [] s KP x) (a : Int) (L : List (List AV)) (hid : Int) : KP x [.grow 0 6 32, .mem 23 [.sl 6 [] (some 0)], .mem 3 [.int .i64 0], .mem 24 [.int .i64 0], .grow L.length 6 32, .mem 45 [.str s, .int .i64 a, .sl 6 L (some 4), .int .i64 hid]] := h a L hid
theorem tab23 : TabPOk cfg pfE (ctabP [(27, addTC), (36, skipT)] [(17, failC), (35, nameC), (37, peekC)]) := ctabP_ok (ctab_cons c27t (ctab_cons c36t ctab_nil)) (tabP_cons c17 (tabP_cons c35 (tabP_cons c37 tabP_nil)))
theorem byte_ne {s : List UInt8} {b : Nat} {c : UInt8} : (((s.getD b 0).toNat : Int) == (c.toNat : Int)) = (s.getD b 0 == c) := by
  rw [Bool.eq_iff_iff]
  simp only [beq_iff_eq]
  constructor
  · intro h
    exact UInt8.toNat_inj.1 (by omega)
  · intro h; rw [h]
theorem rowsT (l : List Tok) : ∀ n g, 9 ≤ n → stripss n g (encTs l) = encTs l := fun n g _ => stripTs n g l
theorem c23 : COkP cfg pfE 23 closeTC := by
  refine cokP_heap hf23 fun vs h K KP ht => ?_
  obtain ⟨s, a, l, hid, hh, ha, hs, hl, rfl, rfl, h1, h2⟩ := ht
  have h6 : a + 6 ≤ s.length := has_le hh (by decide)
  have e6 : IntKind.wrap .i64 ((a : Int) + 6) = ((a + 6 : Nat) : Int) := wrap_add (b := 6) (by omega)
  refine t23 tab23 ⟨s, a + 6, encTs l, hid, a, ok0 l, h6, hs, rfl, by rw [e6], fun hk a7 L8 hid9 => ?_, fun hk => ?_⟩
  · have : closeM s a = .error (a, 11) := by unfold closeM; rw [if_pos hk]
    exact pan_up (h1 _ _ this) _ _ _ _
  · have hll := lets_le s (a + 6)
    have hb := past_le (s := s) (a := a + 6 + lets s (a + 6)) (by omega)
    refine ⟨s, a + 6 + lets s (a + 6), encTs l, hid, 4, _, [], okT (l := []) (rowsT l), by omega, hs, rfl, rfl, ?_⟩
    refine ⟨rT 4 ((s.drop (a + 6)).take (lets s (a + 6))) (encAs []), s, past s (a + 6 + lets s (a + 6)), encTs l, hid, a, okT (l := []) (rowsT l), hb.2, hs, rfl, rfl, fun x => ?_, fun x => ifP_intro (fun y => ⟨a, 11, rfl, ?_⟩) fun y => ?_⟩
    · have : closeM s a = .error (a, 14) := by unfold closeM; simp only [hk, x, Bool.true_eq_false, if_false]; simp
      rw [stripTs]
      exact pan_at (h1 _ _ this) _ _ _
    · have hy : s.getD (past s (a + 6 + lets s (a + 6))) 0 ≠ 62 := by
        have := byte_ne (s := s) (b := past s (a + 6 + lets s (a + 6))) (c := 62)
        simp only [bne, Bool.not_eq_true'] at y
        rw [show ((62 : UInt8).toNat : Int) = 62 from rfl] at this
        rw [this] at y
        simpa using y
      have : closeM s a = .error (a, 11) := by unfold closeM; simp only [hk, Bool.true_eq_false, if_false]; rw [if_neg (by omega), if_pos hy]
      rw [stripTs]
      exact pan_at (h1 _ _ this) _ _ _
    · have hy : s.getD (past s (a + 6 + lets s (a + 6))) 0 = 62 := by
        have := byte_ne (s := s) (b := past s (a + 6 + lets s (a + 6))) (c := 62)
        simp only [bne, Bool.not_eq_false'] at y
        rw [show ((62 : UInt8).toNat : Int) = 62 from rfl] at this
        rw [this] at y
        simpa using y
      have hc : closeM s a = .ok ⟨4, (s.drop (a + 6)).take (lets s (a + 6)), [], cut s a (past s (a + 6 + lets s (a + 6)) + 1), a, past s (a + 6 + lets s (a + 6)) + 1⟩ := by
        unfold closeM; simp only [hk, Bool.true_eq_false, if_false]; rw [if_neg (by omega), if_neg (by simpa using hy)]
      have hkk := h2 _ hc
      refine ⟨s, past s (a + 6 + lets s (a + 6)) + 1, a, encTs l, hid, 4, _, [], okT (l := []) (rowsT l), by omega, hs, by omega, by rw [encTs_len]; exact Nat.le_trans hl hs, rfl, by rw [wrap_nat (by omega)], ?_⟩
      rw [encTs_app] at hkk
      unfold row
      rw [strip_row0 _ (stripTs _ _ _) (stripAs _ _ _) rfl, len_app]
      unfold hX at hkk
      rw [show ∀ t : Tok, encTs [t] = [row t.kind t.name (encAs t.attrs) none t.text t.fr t.to] from fun _ => rfl, len_app] at hkk
      exact hkk
end Go.Proofs.YtolmmodgneodbaaDoor
end

section
namespace Go.Proofs.YtolmmodgneodbaaDoor
open Go.Ai Go Go.Ai.Ex
set_option linter.unusedSimpArgs false
set_option linter.unusedVariables false
set_option maxRecDepth 100000
theorem hf38 : heapFn cfg 38 Tryd.f38 := ⟨by kernel_rfl, by kernel_rfl, by kernel_rfl, by kernel_rfl, by kernel_rfl, by kernel_rfl⟩
theorem ixB_fnd : ∀ (s : List UInt8) (c : UInt8), Lib.indexByte s c = match fnd [c] s with | some n => (n : Int) | none => -1
  | [], c => rfl
  | b :: r, c => by
    rw [Lib.indexByte, fnd]
    have e : List.isPrefixOf [c] (b :: r) = (c == b) := by simp [List.isPrefixOf]
    rw [e, ixB_fnd r c]
    by_cases h : b = c
    · subst h; simp
    · have h1 : (b == c) = false := by simpa using h
      have h2 : (c == b) = false := by simpa using fun q => h q.symm
      rw [h1, h2]
      cases fnd [c] r with
      | none => rfl
      | some n =>
        simp only [Bool.false_eq_true, if_false, Option.map_some]
        have : ((n : Int) == -1) = false := by simp
        rw [this]
        simp
theorem attrM_eq (s : List UInt8) (a tg : Nat) (l : List Att) {n : Nat} (hn : n = min (lets s a) 16) : attrM s a tg l =
    if l.any (fun c => (s.drop a).take n == c.name) = true then .error (a, 12) else
    if s.length ≤ a + n then .error (tg, 14) else
    if n = 0 ∨ s.getD (a + n) 0 ≠ 61 then .error (a + n, 12) else
    if s.length ≤ a + n + 1 then .error (tg, 14) else
    if s.getD (a + n + 1) 0 ≠ 34 ∧ s.getD (a + n + 1) 0 ≠ 39 then .error (a + n + 1, 12) else
    match fnd [s.getD (a + n + 1) 0] (s.drop (a + n + 2)) with
    | none => .error (tg, 14)
    | some k => .ok (⟨(s.drop a).take n, (s.drop (a + n + 2)).take k, a⟩, a + n + 2 + k + 1) := by
  subst hn; rfl
theorem tab38 : TabPOk cfg pfE (ctabP [(51, smallC), (41, ixBC), (52, dupC)] [(17, failC), (37, peekC), (39, needA)]) :=
  ctabP_ok (ctab_cons c51 (ctab_cons c41 (ctab_cons c52 ctab_nil))) (tabP_cons c17 (tabP_cons c37 (tabP_cons c39a tabP_nil)))
theorem byteI {s : List UInt8} {b : Nat} (c : UInt8) (i : Int) (hi : (c.toNat : Int) = i) : (((s.getD b 0).toNat : Int) == i) = (s.getD b 0 == c) := by rw [← hi]; exact byte_ne

/-- Behind an attribute's name. -/
theorem tail38 {K : AV → Hp → Prop} {KP : PX → Hp → Prop} {s : List UInt8} {a n : Nat} {L : List (List AV)} {hid k : Int} {tg : Nat} {nm : List UInt8} {l : List Att} (hL : ∀ n g, 9 ≤ n → stripss n g L = L) (hs : s.length ≤ limE) (hl : l.length ≤ limE) (hn : n = min (lets s a) 16) (ha : a + n ≤ s.length)
    (h1 : ∀ p e, attrM s a tg l = .error (p, e) → PanX (rT k nm (encAs l)) s KP ((p : Int), e)) (h2 : ∀ at' b, attrM s a tg l = .ok (at', b) → K (.agg (encA at')) (hTg s (b : Nat) L hid k nm (encAs l))) :
    ToE cfg 38 (bodyOf Tryd.f38) (retQ Tryd.prog Tryd.f38 pfE 9 K KP) [.code [1, 1, 1]] .normal [(0, true, .ptr 5 0), (1, true, .int .i64 tg), (2, true, .sl 3 (encAs l) (some 6)), (6, true, .ptr 9 0), (7, true, .int .i64 a)] (hBt s ((a + n : Nat) : Int) L hid k nm (encAs l)) := by
  obtain ⟨e1, e2⟩ := cut_cutL s (show a ≤ a + n by omega) ha
  rw [cut_take] at e1
  have hA := attrM_eq s a tg l hn
  have ok : ∀ (an av : List UInt8) (aa : Int), Keep.okX (rA k nm (encAs l) an av aa) L := fun an av aa => okA hL
  have hl9 := fun g => hL 9 g (Nat.le_refl 9)
  refine t38b tab38 (gAnd_intro e2 ?_)
  simp only [stripAs, hl9, e1]
  refine ⟨s, _, L, hid, k, nm, l, (s.drop a).take n, [], a, ok _ _ _, rfl, hl, rfl, ifP_intro (fun x => ⟨a, 12, rfl, ?_⟩) fun x => ?_⟩
  · rw [if_pos x] at hA
    exact h1 _ _ hA _ _ _
  rw [if_neg (by rw [x]; simp)] at hA
  refine ⟨rA k nm (encAs l) _ _ _, s, a + n, L, hid, tg, ok _ _ _, ha, hs, rfl, rfl, fun y => ?_, fun y => ?_⟩
  · rw [if_pos (by omega)] at hA
    exact h1 _ _ hA _ _ _
  rw [if_neg (by omega)] at hA
  rw [byteI 61 61 rfl]
  refine ifP_intro (fun z => ?_) fun z => ?_
  · have z61 : s.getD (a + n) 0 = 61 := by simpa using z
    refine ⟨s, a + n, L, hid, k, tg, nm, l, (s.drop a).take n, [], a, _, ok _ _ _, ha, hs, rfl, rfl, fun y' => absurd y' (by omega), fun _ y' => ?_, fun _ y' => ?_⟩
    · have hn0 : n = 0 := by
        have : (s.drop a).take n = [] := by simpa using y'
        rw [List.take_eq_nil_iff] at this
        rcases this with h | h
        · exact h
        · rw [List.drop_eq_nil_iff] at h; omega
      rw [if_pos (.inl hn0)] at hA
      exact h1 _ _ hA _ _ _
    have hn0 : ¬ n = 0 := by
      intro h
      subst h
      simp at y'
    rw [if_neg (fun h => h.elim hn0 fun h => h z61)] at hA
    refine ⟨rA k nm (encAs l) _ _ _, s, a + n + 1, L, hid, tg, ok _ _ _, by omega, hs, rfl, rfl, fun w => ?_, fun w => ?_⟩
    · rw [if_pos (by omega)] at hA
      simp only [stripAs, hl9]
      exact h1 _ _ hA _ _ _
    rw [if_neg (by omega)] at hA
    simp only [stripAs, hl9]
    have ex := cut_from s (show a + n + 1 + 1 ≤ s.length by omega)
    have ep : ((a + n + 1 + 1 : Nat) : Int) = ((a + n + 2 : Nat) : Int) := rfl
    have fin : ∀ (hm : ¬ (s.getD (a + n + 1) 0 ≠ 34 ∧ s.getD (a + n + 1) 0 ≠ 39)), (fnd [s.getD (a + n + 1) 0] (s.drop (a + n + 2)) = none → PanX (rT k nm (encAs l)) s KP ((tg : Int), 14)) ∧
        (∀ j, fnd [s.getD (a + n + 1) 0] (s.drop (a + n + 2)) = some j → K (.agg [.str ((s.drop a).take n), .str ((s.drop (a + n + 2)).take j), .int .i64 a]) (hTg s ((a + n + 2 + j + 1 : Nat) : Int) L hid k nm (encAs l))) := by
      intro hm
      rw [if_neg hm] at hA
      refine ⟨fun hf => ?_, fun j hf => ?_⟩
      · rw [hf] at hA; exact h1 _ _ hA
      · rw [hf] at hA; exact h2 _ _ hA
    rw [byteI 34 34 rfl, byteI 39 39 rfl]
    refine ifP_intro (fun m => ?_) fun m => ?_
    all_goals
      refine ⟨s, a + n + 1, L, hid, k, tg, nm, l, (s.drop a).take n, [], a, _, ok _ _ _, by omega, hs, rfl, rfl, fun y' => absurd y' (by omega), fun _ m2 => ?_, fun _ m2 => ?_⟩
    · cases m2
    rotate_left
    · have : s.getD (a + n + 1) 0 ≠ 34 ∧ s.getD (a + n + 1) 0 ≠ 39 := ⟨by simpa using m, by simpa using m2⟩
      rw [if_pos this] at hA
      exact h1 _ _ hA _ _ _
    all_goals
      try simp only [stripAs, hl9]
      obtain ⟨f1, f2⟩ := fin (fun u => by first | exact u.1 (by simpa using m) | exact u.2 (by simpa using m2))
      refine gAnd_intro ex.2 ⟨s.drop (a + n + 2), s.getD (a + n + 1) 0, by rw [List.length_drop]; unfold limE at hs; omega, by rw [ex.1], ?_⟩
      rw [ixB_fnd]
      cases hf : fnd [s.getD (a + n + 1) 0] (s.drop (a + n + 2)) with
      | none => exact ifP_intro (fun _ => ⟨tg, 14, rfl, f1 hf _ _ _⟩) fun q => by simp at q
      | some j =>
        have hle := fnd_lt hf
        simp only [List.length_drop, List.length_cons, List.length_nil] at hle
        have w1 : IntKind.wrap .i64 (((a + n + 1 + 1 : Nat) : Int) + (j : Int)) = ((a + n + 2 + j : Nat) : Int) := wrap_add (by omega)
        have w2 : IntKind.wrap .i64 ((j : Int) + 1) = ((j + 1 : Nat) : Int) := wrap_nat (by omega)
        have w3 : IntKind.wrap .i64 (((a + n + 1 + 1 : Nat) : Int) + ((j + 1 : Nat) : Int)) = ((a + n + 2 + j + 1 : Nat) : Int) := by rw [wrap_add (by omega)]; congr 1
        obtain ⟨q1, q2⟩ := cut_cutL s (show a + n + 2 ≤ a + n + 2 + j by omega) (show a + n + 2 + j ≤ s.length by omega)
        rw [cut_take] at q1
        refine ifP_intro (fun q => absurd (of_decide_eq_true q) (Int.not_lt.2 (Int.natCast_nonneg j))) fun _ => ?_
        simp only [w1, w2, w3]
        refine gAnd_intro q2 ?_
        rw [show (((a + n + 1 + 1 : Nat) : Int)) = ((a + n + 2 : Nat) : Int) from rfl, q1]
        exact f2 j hf
  · have z61 : s.getD (a + n) 0 ≠ 61 := by simpa using z
    rw [if_pos (.inr z61)] at hA
    refine ⟨s, a + n, L, hid, k, tg, nm, l, (s.drop a).take n, [], a, _, ok _ _ _, ha, hs, rfl, rfl, fun y' => absurd y' (by omega), fun _ _ => h1 _ _ hA _ _ _, fun _ y' => by cases y'⟩

theorem loop38 {K : AV → Hp → Prop} {KP : PX → Hp → Prop} {s : List UInt8} {a n : Nat} {L : List (List AV)} {hid k : Int} {tg : Nat} {nm : List UInt8} {l : List Att} (hL : ∀ n g, 9 ≤ n → stripss n g L = L) (hs : s.length ≤ limE) (hl : l.length ≤ limE) (hn : n = min (lets s a) 16) (ha : a ≤ s.length)
    (h1 : ∀ p e, attrM s a tg l = .error (p, e) → PanX (rT k nm (encAs l)) s KP ((p : Int), e)) (h2 : ∀ at' b, attrM s a tg l = .ok (at', b) → K (.agg (encA at')) (hTg s (b : Nat) L hid k nm (encAs l))) :
    ∀ (m b : Nat), a + n - b = m → a ≤ b → b ≤ a + n → ToE cfg 38 (bodyOf Tryd.f38) (retQ Tryd.prog Tryd.f38 pfE 9 K KP) [.code [0, 0, 1, 1], .block 0, .code [1, 1, 1]] .normal [(0, true, .ptr 5 0), (1, true, .int .i64 tg), (2, true, .sl 3 (encAs l) (some 6)), (6, true, .ptr 9 0), (7, true, .int .i64 a)] (hBt s (b : Nat) L hid k nm (encAs l))
  | 0, b, hm, q1, q2 => by
    have hb : b = a + n := by omega
    subst hb
    have hle := lets_le s a
    have hle2 : a + n ≤ s.length := by omega
    have T := tail38 hL hs hl hn hle2 h1 h2
    have sub : ((a + n : Nat) : Int) - (a : Int) = (n : Int) := by omega
    refine t38a tab38 (ifP_intro (fun x => gAnd_intro (inR_nat (by simp at x; omega)) ⟨s.getD (a + n) 0, byte_eq, ifP_intro (fun y => ifP_intro (fun z => ?_) fun z => T) fun y => T⟩) fun x => T)
    exfalso
    rw [sub, wrap_in (by omega) (by unfold limE at hs; omega)] at z
    have hz : n < 16 := by simp at z; omega
    have : n = lets s a := by omega
    rw [this] at y
    rw [lets_no (by simp at x; omega)] at y
    cases y
  | m + 1, b, hm, q1, q2 => by
    obtain ⟨k1, k2⟩ := lets_yes (s := s) q1 (show b < a + lets s a by omega)
    have sub : (b : Int) - (a : Int) = ((b - a : Nat) : Int) := by omega
    refine t38a tab38 (ifP_intro (fun x => gAnd_intro (inR_nat k1) ⟨s.getD b 0, byte_eq, ifP_intro (fun y => ifP_intro (fun z => ?_) fun z => ?_) fun y => ?_⟩) fun x => ?_)
    · rw [wrap_nat (by omega)]
      exact loop38 hL hs hl hn ha h1 h2 m (b + 1) (by omega) (by omega) (by omega)
    · exfalso
      rw [sub, wrap_in (by omega) (by unfold limE at hs; omega)] at z
      simp at z
      omega
    · rw [k2] at y; cases y
    · simp at x; omega
theorem c38 : COkP cfg pfE 38 attrC := by
  refine cokP_heap hf38 fun vs h K KP ht => ?_
  obtain ⟨s, a, L, hid, tag, k, tg, nm, l, hok, ha, hs, hl, rfl, rfl, rfl, h1, h2⟩ := ht
  exact t38 tab38 (loop38 (ok_rows (r := []) hok) hs hl rfl ha h1 h2 _ a rfl (by omega) (by omega))
end Go.Proofs.YtolmmodgneodbaaDoor
end

section
namespace Go.Proofs.YtolmmodgneodbaaDoor
open Go.Ai Go Go.Ai.Ex
set_option linter.unusedSimpArgs false
set_option linter.unusedVariables false
set_option maxRecDepth 100000
theorem hf22 : heapFn cfg 22 Tryd.f22 := ⟨by kernel_rfl, by kernel_rfl, by kernel_rfl, by kernel_rfl, by kernel_rfl, by kernel_rfl⟩
theorem tab22 : TabPOk cfg pfE (ctabP [(27, addTC), (36, skipT)] [(17, failC), (35, nameC), (37, peekC), (38, attrC), (39, needT), (40, rawTC)]) :=
  ctabP_ok (ctab_cons c27t (ctab_cons c36t ctab_nil)) (tabP_cons c17 (tabP_cons c35 (tabP_cons c37 (tabP_cons c38 (tabP_cons c39t (tabP_cons c40 tabP_nil))))))
/-- Rows behind a tag. -/
theorem rows_tag {l0 : List Tok} {k fr to : Int} {nm t : List UInt8} {l : List Att} : ∀ n g, 9 ≤ n → stripss n g (encTs l0 ++ [row k nm (encAs l) (some 6) t fr to]) = encTs l0 ++ [row k nm (encAs l) (some 6) t fr to] := fun n g hn => by
  unfold row
  exact strip_row g (stripTs _ _ _) (stripAs _ _ _) (blt6 hn)
theorem end_tag (g : Hp) {l0 : List Tok} {k fr to : Int} {nm t : List UInt8} {l : List Att} : stripss 6 g (encTs l0 ++ [row k nm (encAs l) (some 6) t fr to]) = encTs l0 ++ [row k nm (encAs l) none t fr to] := by
  unfold row
  exact strip_row0 g (stripTs _ _ _) (stripAs _ _ _) rfl
theorem end_raw (g : Hp) {l0 : List Tok} {k fr to : Int} {nm t : List UInt8} {l : List Att} {t2 : List UInt8} {f2 o2 : Int} : stripss 6 g ((encTs l0 ++ [row k nm (encAs l) (some 6) t fr to]) ++ [row 7 [] [] none t2 f2 o2]) = encTs l0 ++ [row k nm (encAs l) none t fr to] ++ [row 7 [] [] none t2 f2 o2] := by
  rw [stripss_app, end_tag]
  rfl
theorem pan_len {s : List UInt8} {KP : PX → Hp → Prop} {x : PX} (h : PanX [] s KP x) (a : Int) (L L' : List (List AV)) (hl : L.length = L'.length) (hid : Int) : KP x [.grow 0 6 32, .mem 23 [.sl 6 [] (some 0)], .mem 3 [.int .i64 0], .mem 24 [.int .i64 0], .grow L.length 6 32, .mem 45 [.str s, .int .i64 a, .sl 6 L' (some 4), .int .i64 hid]] := by
  rw [hl]
  exact h a L' hid
theorem encT_row (t : Tok) : encTs [t] = [row t.kind t.name (encAs t.attrs) none t.text t.fr t.to] := rfl
theorem hX_tag {s : List UInt8} {b : Int} {l0 : List Tok} {t : Tok} {hid : Int} : hX s b (encTs (l0 ++ [t])) hid = [.grow 0 6 32, .mem 23 [.sl 6 [] (some 0)], .mem 3 [.int .i64 0], .mem 24 [.int .i64 0], .grow ((encTs l0).length + 1) 6 32, .mem 45 [.str s, .int .i64 b, .sl 6 (encTs l0 ++ [row t.kind t.name (encAs t.attrs) none t.text t.fr t.to]) (some 4), .int .i64 hid]] := by
  rw [encTs_app, encT_row]
  unfold hX
  rw [len_app]

/-- Behind a tag's attributes. -/
theorem tail22 {K : AV → Hp → Prop} {KP : PX → Hp → Prop} {s : List UInt8} {a b : Nat} {l0 : List Tok} {hid : Int} {nm : List UInt8} {l : List Att} (hs : s.length ≤ limE) (hl0 : l0.length < s.length) (hnm : nm.length ≤ limE) (hab : a ≤ b) (hb : b < s.length) (hc : s.getD b 0 = 62 ∨ s.getD b 0 = 47)
    (h1 : ∀ p e, (match tagEnd s a nm l b with | .error e => .error e | .ok t => rawM s t : Except Bad (List Tok)) = .error (p, e) → PanX [] s KP ((p : Int), e))
    (h2 : ∀ ts, (match tagEnd s a nm l b with | .error e => .error e | .ok t => rawM s t : Except Bad (List Tok)) = .ok ts → K (.tup []) (hX s ((lastTo ts (a + 1) : Nat) : Int) (encTs (l0 ++ ts)) hid)) :
    ToE cfg 22 (bodyOf Tryd.f22) (retQ Tryd.prog Tryd.f22 pfE 6 K KP) [.code [1, 1, 1, 1]] .normal [(0, true, .ptr 5 0), (2, true, .int .i64 a), (3, true, .ptr 8 0)] (hTg s (b : Nat) (encTs l0) hid 2 nm (encAs l)) := by
  have hl0' : (encTs l0).length ≤ 1000000 := by rw [encTs_len]; unfold limE at hs; omega
  refine t22b tab22 (gAnd_intro (inR_nat hb) ?_)
  simp only [Int.toNat_natCast]
  rw [byteI 47 47 rfl]
  refine ifP_intro (fun x => ?_) fun x => ?_
  · have x47 : s.getD b 0 = 47 := by simpa using x
    have wb : IntKind.wrap .i64 ((b : Int) + 1) = ((b + 1 : Nat) : Int) := wrap_nat (by omega)
    rw [wb]
    refine ⟨rT 3 nm (encAs l), s, b + 1, encTs l0, hid, a, okT (rowsT l0), by omega, hs, rfl, rfl, fun y => ?_, fun y => ⟨s, b + 1, encTs l0, hid, 3, a, nm, l, _, okT (rowsT l0), by omega, hs, rfl, rfl, fun z => absurd z (by omega), fun _ z => ?_, fun _ z => ?_⟩⟩
    · have : tagEnd s a nm l b = .error (a, 14) := by unfold tagEnd; rw [if_pos x47]; simp only; rw [if_pos (by omega)]
      rw [stripTs]
      exact h1 _ _ (by rw [this]) _ _ _
    · rw [byteI 62 62 rfl] at z
      have z62 : s.getD (b + 1) 0 ≠ 62 := by simpa using z
      have : tagEnd s a nm l b = .error (b + 1, 12) := by unfold tagEnd; rw [if_pos x47]; simp only; rw [if_neg (by omega), if_pos z62]
      rw [stripTs]
      exact h1 _ _ (by rw [this]) _ _ _
    · rw [byteI 62 62 rfl] at z
      have z62 : s.getD (b + 1) 0 = 62 := by simpa using z
      have ht : tagEnd s a nm l b = .ok ⟨3, nm, l, cut s a (b + 2), a, b + 2⟩ := by unfold tagEnd; rw [if_pos x47]; simp only; rw [if_neg (by omega), if_neg (by simpa using z62)]; rfl
      have hk := h2 [⟨3, nm, l, cut s a (b + 2), a, b + 2⟩] (by rw [ht]; rfl)
      refine ⟨s, b + 2, a, encTs l0, hid, 3, nm, l, okT (rowsT l0), by omega, hs, by omega, hl0', rfl, rfl, ifP_intro (fun q => by cases q) fun _ => ?_⟩
      rw [end_tag, len_app]
      rw [hX_tag] at hk
      exact hk
  · have x62 : s.getD b 0 = 62 := hc.resolve_right (by simpa using x)
    refine ⟨rT 2 nm (encAs l), s, b, encTs l0, hid, a, okT (rowsT l0), by omega, hs, rfl, rfl, fun y => absurd y (by omega), fun y => ⟨s, b, encTs l0, hid, 2, a, nm, l, _, okT (rowsT l0), by omega, hs, rfl, rfl, fun z => absurd z (by omega), fun _ z => ?_, fun _ z => ?_⟩⟩
    · rw [byteI 62 62 rfl, x62] at z; cases z
    · have ht : tagEnd s a nm l b = .ok ⟨2, nm, l, cut s a (b + 1), a, b + 1⟩ := by
        have h47 : ¬ s.getD b 0 = 47 := by rw [x62]; decide
        unfold tagEnd; simp only [h47, if_false, Nat.add_zero]; rw [if_neg (by omega), if_neg (by rw [x62]; simp)]; rfl
      rw [ht] at h1 h2
      simp only at h1 h2
      refine ⟨s, b + 1, a, encTs l0, hid, 2, nm, l, okT (rowsT l0), by omega, hs, by omega, hl0', rfl, rfl, ifP_intro (fun _ => ?_) fun q => by cases q⟩
      -- a raw text
      have raw : ∀ (hn : nm = removeS ∨ nm = inlineS), (fnd (closesS ++ nm) (s.drop (b + 1)) = none → PanX [] s KP ((a : Int), 14)) ∧
          ∀ n, fnd (closesS ++ nm) (s.drop (b + 1)) = some n → (∀ j, fnd opensS ((s.drop (b + 1)).take n) = some j → nm = removeS → PanX [] s KP (((b + 1 + j : Nat) : Int), 13)) ∧
            ((fnd opensS ((s.drop (b + 1)).take n) = none ∨ nm ≠ removeS) → K (.tup []) (hX s ((b + 1 + n : Nat) : Int) (encTs (l0 ++ [⟨2, nm, l, cut s a (b + 1), a, b + 1⟩, ⟨7, [], [], (s.drop (b + 1)).take n, b + 1, b + 1 + n⟩])) hid)) := by
        intro hn
        have e : rawM s ⟨2, nm, l, cut s a (b + 1), a, b + 1⟩ = match fnd (closesS ++ nm) (s.drop (b + 1)) with
            | none => .error (a, 14)
            | some n => match fnd opensS ((s.drop (b + 1)).take n), decide (nm = removeS) with
              | some k, true => .error (b + 1 + k, 13)
              | _, _ => .ok [⟨2, nm, l, cut s a (b + 1), a, b + 1⟩, ⟨7, [], [], (s.drop (b + 1)).take n, b + 1, b + 1 + n⟩] := by
          unfold rawM; rw [if_pos ⟨rfl, hn⟩]; rfl
        refine ⟨fun hf => h1 _ _ (by rw [e, hf]), fun n hf => ⟨fun j hj hr => h1 _ _ (by rw [e, hf]; simp only [hj, decide_eq_true hr]), fun hno => ?_⟩⟩
        refine h2 [⟨2, nm, l, cut s a (b + 1), a, b + 1⟩, ⟨7, [], [], (s.drop (b + 1)).take n, b + 1, b + 1 + n⟩] (by
          rw [e, hf]
          rcases hno with hno | hno
          · simp only [hno]
          · simp only [decide_eq_false hno]
            cases fnd opensS ((s.drop (b + 1)).take n) <;> rfl)
      have fin : (nm = removeS ∨ nm = inlineS) → ∃ (s31 : List UInt8) (a32 tag33 : Nat) (L34 : List (List AV)) (hid35 k36 : Int) (nm37 : List UInt8) (l38 : List Att), Keep.okX (rT k36 nm37 (encAs l38)) L34 ∧ a32 ≤ s31.length ∧ s31.length ≤ 1000000 ∧ L34.length ≤ 1000000 ∧ nm37.length ≤ 1000000 ∧
          [AV.ptr 5 0, AV.str nm, AV.int .i64 (a : Int)] = [AV.ptr 5 0, AV.str nm37, AV.int .i64 (tag33 : Int)] ∧ hTg s ((b + 1 : Nat) : Int) (encTs l0 ++ [row 2 nm (encAs l) (some 6) (cut s a (b + 1)) a ((b + 1 : Nat) : Int)]) hid 2 nm (encAs l) = hTg s31 a32 L34 hid35 k36 nm37 (encAs l38) ∧
          (fnd ([60, 47, 101, 115, 105, 58] ++ nm37) (List.drop a32 s31) = none → ∀ (a40 : Int) (L41 : List (List AV)) (hid42 : Int), KP ((tag33 : Int), 14) [.grow 0 6 32, .mem 23 [.sl 6 [] (some 0)], .mem 3 [.int .i64 0], .mem 24 [.int .i64 0], .grow L41.length 6 32, .mem 45 [.str s31, .int .i64 a40, .sl 6 (stripss 6 (hX s31 a40 L41 hid42 ++ rT k36 nm37 (encAs l38)) L41) (some 4), .int .i64 hid42]]) ∧
          ∀ (n43 : Nat), fnd ([60, 47, 101, 115, 105, 58] ++ nm37) (List.drop a32 s31) = some n43 → (∀ (j45 : Nat), fnd [60, 101, 115, 105, 58] (List.take n43 (List.drop a32 s31)) = some j45 → nm37 = [114, 101, 109, 111, 118, 101] → ∀ (a48 : Int) (L49 : List (List AV)) (hid50 : Int), KP (((a32 + j45 : Nat) : Int), 13) [.grow 0 6 32, .mem 23 [.sl 6 [] (some 0)], .mem 3 [.int .i64 0], .mem 24 [.int .i64 0], .grow L49.length 6 32, .mem 45 [.str s31, .int .i64 a48, .sl 6 (stripss 6 (hX s31 a48 L49 hid50 ++ rT k36 nm37 (encAs l38)) L49) (some 4), .int .i64 hid50]]) ∧
            (fnd [60, 101, 115, 105, 58] (List.take n43 (List.drop a32 s31)) = none ∨ nm37 ≠ [114, 101, 109, 111, 118, 101] → K (.tup []) [.grow 0 6 32, .mem 23 [.sl 6 [] (some 0)], .mem 3 [.int .i64 0], .mem 24 [.int .i64 0], .grow (L34 ++ [row 7 [] [] none (List.take n43 (List.drop a32 s31)) a32 ((a32 + n43 : Nat) : Int)]).length 6 32,
              .mem 45 [.str s31, .int .i64 ((a32 + n43 : Nat) : Int), .sl 6 (stripss 6 [.grow 0 6 32, .mem 23 [.sl 6 [] (some 0)], .mem 3 [.int .i64 0], .mem 24 [.int .i64 0], .grow (L34 ++ [row 7 [] [] none (List.take n43 (List.drop a32 s31)) a32 ((a32 + n43 : Nat) : Int)]).length 6 32,
                .mem 45 [.str s31, .int .i64 ((a32 + n43 : Nat) : Int), .sl 6 (L34 ++ [row 7 [] [] none (List.take n43 (List.drop a32 s31)) a32 ((a32 + n43 : Nat) : Int)]) (some 4), .int .i64 hid35], .grow (encAs l38).length 3 40, .grow 0 3 40, .mem 32 [.int .i64 k36, .str nm37, .sl 3 (encAs l38) (some 6), .str [], .int .i64 0, .int .i64 0]]
                (L34 ++ [row 7 [] [] none (List.take n43 (List.drop a32 s31)) a32 ((a32 + n43 : Nat) : Int)])) (some 4), .int .i64 hid35]]) := by
        intro hn
        obtain ⟨r1, r2⟩ := raw hn
        refine ⟨s, b + 1, a, _, hid, 2, nm, l, okT rows_tag, by omega, hs, by rw [len_app, encTs_len]; unfold limE at hs; omega, hnm, rfl, rfl, fun hf a40 L41 hid42 => pan_len (r1 hf) _ _ _ (stripss_len _ _ _).symm _, fun n hf => ⟨fun j hj hr a48 L49 hid50 => pan_len ((r2 n hf).1 j hj hr) _ _ _ (stripss_len _ _ _).symm _, fun hno => ?_⟩⟩
        have hk := (r2 n hf).2 hno
        rw [end_raw, len_app, len_app]
        rw [show l0 ++ [(⟨2, nm, l, cut s a (b + 1), a, b + 1⟩ : Tok), ⟨7, [], [], (s.drop (b + 1)).take n, b + 1, b + 1 + n⟩] = (l0 ++ [⟨2, nm, l, cut s a (b + 1), a, b + 1⟩]) ++ [⟨7, [], [], (s.drop (b + 1)).take n, b + 1, b + 1 + n⟩] by simp, hX_tag, encTs_app, encT_row, len_app] at hk
        exact hk
      refine ifP_intro (fun q => fin (.inl (by simpa [removeS] using q))) fun q1 => ifP_intro (fun q => fin (.inr (by simpa [inlineS] using q))) fun q2 => ?_
      have hno : ¬ (nm = removeS ∨ nm = inlineS) := by
        rintro (h | h)
        · subst h; simp [removeS] at q1
        · subst h; simp [inlineS] at q2
      have hk := h2 [⟨2, nm, l, cut s a (b + 1), a, b + 1⟩] (by unfold rawM; rw [if_neg (fun h => hno h.2)])
      rw [end_tag, len_app]
      rw [hX_tag] at hk
      exact hk

theorem encAs_app (l : List Att) (a : Att) : encAs (l ++ [a]) = encAs l ++ [encA a] := by unfold encAs; rw [List.map_append]; rfl
/-- A tag's attributes. -/
theorem loop22 {K : AV → Hp → Prop} {KP : PX → Hp → Prop} {s : List UInt8} {a : Nat} {l0 : List Tok} {hid : Int} {nm : List UInt8} (hs : s.length ≤ limE) (hl0 : l0.length < s.length) (hnm : nm.length ≤ limE) :
    ∀ (f b : Nat) (l : List Att), s.length - b < f → a ≤ b → b ≤ s.length → l.length ≤ b →
    (∀ p e, (match attrsM s a f b l with | .error e => .error e | .ok (l', b') => (match tagEnd s a nm l' b' with | .error e => .error e | .ok t => rawM s t) : Except Bad (List Tok)) = .error (p, e) → PanX [] s KP ((p : Int), e)) →
    (∀ ts, (match attrsM s a f b l with | .error e => .error e | .ok (l', b') => (match tagEnd s a nm l' b' with | .error e => .error e | .ok t => rawM s t) : Except Bad (List Tok)) = .ok ts → K (.tup []) (hX s ((lastTo ts (a + 1) : Nat) : Int) (encTs (l0 ++ ts)) hid)) →
    ToE cfg 22 (bodyOf Tryd.f22) (retQ Tryd.prog Tryd.f22 pfE 6 K KP) [.code [0, 0, 1, 1, 1], .block 0, .code [1, 1, 1, 1]] .normal [(0, true, .ptr 5 0), (2, true, .int .i64 a), (3, true, .ptr 8 0)] (hTg s (b : Nat) (encTs l0) hid 2 nm (encAs l))
  | 0, b, l, hf, _, _, _, _, _ => by omega
  | f + 1, b, l, hf, hab, hb, hl, h1, h2 => by
    obtain ⟨p1, p2⟩ := past_le hb
    have ew : (((past s b - b : Nat) : Int) == 0) = decide (past s b = b) := by
      rw [Bool.eq_iff_iff]; simp; omega
    refine t22a tab22 ⟨s, b, encTs l0, hid, 2, nm, l, okT (rowsT l0), hb, hs, rfl, rfl, rT 2 nm (encAs l), s, past s b, encTs l0, hid, a, okT (rowsT l0), p2, hs, rfl, rfl, fun x => ?_, fun x => ?_⟩
    · rw [attrsM] at h1
      try simp only at h1
      rw [if_pos (by omega)] at h1
      rw [stripTs]
      exact h1 _ _ rfl _ _ _
    rw [attrsM] at h1 h2
    try simp only at h1 h2
    rw [if_neg (by omega)] at h1 h2
    rw [byteI 62 62 rfl, byteI 47 47 rfl, ew]
    refine ifP_intro (fun y => ?_) fun y => ifP_intro (fun z => ?_) fun z => ifP_intro (fun w => ?_) fun w => ?_
    · have hc : s.getD (past s b) 0 = 62 ∨ s.getD (past s b) 0 = 47 := .inl (by simpa using y)
      rw [if_pos hc] at h1 h2
      exact tail22 hs hl0 hnm (by omega) x hc h1 h2
    · have hc : s.getD (past s b) 0 = 62 ∨ s.getD (past s b) 0 = 47 := .inr (by simpa using z)
      rw [if_pos hc] at h1 h2
      exact tail22 hs hl0 hnm (by omega) x hc h1 h2
    · have hc : ¬ (s.getD (past s b) 0 = 62 ∨ s.getD (past s b) 0 = 47) := by
        rintro (h | h)
        · rw [h] at y; simp at y
        · rw [h] at z; simp at z
      rw [if_neg hc, if_pos (by simpa using w)] at h1
      refine ⟨past s b, 12, rfl, ?_⟩
      rw [stripTs, show past s b = b by simpa using w]
      exact h1 _ _ rfl _ _ _
    · have hc : ¬ (s.getD (past s b) 0 = 62 ∨ s.getD (past s b) 0 = 47) := by
        rintro (h | h)
        · rw [h] at y; simp at y
        · rw [h] at z; simp at z
      have hw : ¬ past s b = b := by simpa using w
      rw [if_neg hc, if_neg hw] at h1 h2
      refine ⟨s, past s b, encTs l0, hid, a, 2, a, nm, l, okT (rowsT l0), p2, hs, by show l.length ≤ limE; omega, rfl, rfl, rfl, fun p e he a30 L31 hid32 => ?_, fun at' b' he => ⟨rfl, gAnd_intro ?_ ?_⟩⟩
      · rw [he] at h1
        exact pan_len (h1 _ _ rfl) _ _ _ (stripss_len _ _ _).symm _
      · have : (encAs l).length = l.length := by simp [encAs]
        simp only [tagOk, List.getElem?_cons_succ, List.getElem?_cons_zero, Nat.beq_refl, Bool.and_self, Bool.true_and, Bool.and_true]
        rw [decide_eq_true (by rw [this]; unfold limE at hs; omega)]
      · obtain ⟨q1, q2⟩ := attrM_ok he
        rw [he] at h1 h2
        simp only at h1 h2
        have := loop22 hs hl0 hnm f b' (l ++ [at']) (by omega) (by omega) q2 (by simp; omega) h1 h2
        rw [encAs_app] at this
        unfold hTg at this
        rw [len_app] at this
        exact this
theorem c22 : COkP cfg pfE 22 openTC := by
  refine cokP_heap hf22 fun vs h K KP ht => ?_
  obtain ⟨s, a, l, hid, hh, ha, hs, hl, rfl, rfl, h1, h2⟩ := ht
  have h6 : a + 5 ≤ s.length := has_le hh (by decide)
  have e6 : IntKind.wrap .i64 ((a : Int) + 5) = ((a + 5 : Nat) : Int) := wrap_add (b := 5) (by omega)
  have hll := lets_le s (a + 5)
  unfold openR openM at h1 h2
  simp only at h1 h2
  refine t22 tab22 ⟨s, a + 5, encTs l, hid, a, ok0 l, h6, hs, rfl, by rw [e6], fun hk a7 L8 hid9 => ?_, fun hk => ?_⟩
  · rw [if_pos hk] at h1
    exact pan_up (h1 _ _ rfl) _ _ _ _
  · rw [if_neg (by rw [hk]; simp)] at h1 h2
    have hn : lets s (a + 5) ≤ limE := by omega
    refine loop22 hs (by omega) (by rw [List.length_take, List.length_drop]; omega) (s.length + 1) _ [] (by omega) (by omega) (by omega) (by simp) (fun p e he => h1 p e ?_) fun ts he => h2 ts ?_
    · rw [← he]
      cases attrsM s a (s.length + 1) (a + 5 + lets s (a + 5)) [] with
      | error e => rfl
      | ok r => rfl
    · rw [← he]
      cases attrsM s a (s.length + 1) (a + 5 + lets s (a + 5)) [] with
      | error e => rfl
      | ok r => rfl
end Go.Proofs.YtolmmodgneodbaaDoor
end
