/-
  What the operations do: cuts and appends; and all of them together.
-/
import Derived.Test.YtnncfdlpogjlkaaDoorQAiOps5
namespace Go.Ai
set_option linter.unusedVariables false
set_option linter.unusedSimpArgs false
set_option linter.unnecessarySimpa false
open Go.RowKit

section
variable {G : Nat → Option (List AV)} {I : World → Prop} {B0 : Nat} {E : Env}
variable {P : Program} {F : Fr} {a : Act} {d : Option Tmp} {ty : TypeId} {pos : String} {after : Array Edge} {gd : Option (Nat × Bool)}

theorem optI_ok (H : Good G I B0 E) (hf : FrsOk E F a) {o : Option Operand} {g : Bool} {r : Option Int} (h : optI (o.map (ev G F)) = some (g, r)) (hg : g = true) :
    ∃ k : IntKind, o.map a.eval = r.map (Value.int k) := by
  cases o with
  | none =>
    simp only [Option.map_none, optI, Option.some.injEq, Prod.mk.injEq] at h
    exact ⟨.i64, by simp [← h.2]⟩
  | some x =>
    simp only [Option.map_some] at h
    unfold optI at h
    split at h
    · rename_i h'; cases h'
    · rename_i g' k n h'
      simp only [Option.some.injEq, Prod.mk.injEq] at h h'
      obtain ⟨rfl, rfl⟩ := h
      have := ev_rel H hf h' hg
      exact ⟨k, by simp only [Option.map_some, Option.some.injEq]; exact this⟩
    · cases h

theorem op_slice_str (H : Good G I B0 E) (hf : FrsOk E F a) (t : TypeId) (x : Operand) (lo hi : Option Operand) (ht : P.underlying t = some .string) {g g1 g2 : Bool} {s : List UInt8} {l r : Option Int}
    (hx : ev G F x = (g, .str s)) (hl : optI (lo.map (ev G F)) = some (g1, l)) (hr : optI (hi.map (ev G F)) = some (g2, r)) (hob : (g && g1 && g2 && cutOb s.length l r) = true) :
    OpOk P G I B0 E a ⟨d, .slice t x lo hi none, ty, pos, after, gd⟩ true (.str (cutL s l r)) E.h := by
  simp only [Bool.and_eq_true] at hob
  obtain ⟨⟨⟨hg, hg1⟩, hg2⟩, hc⟩ := hob
  have h1 : a.eval x = .string ⟨s.toArray⟩ := ev_rel H hf hx hg
  obtain ⟨k1, e1⟩ := optI_ok H hf hl hg1
  obtain ⟨k2, e2⟩ := optI_ok H hf hr hg2
  refine OpOk.same H (.string ⟨(cutL s l r).toArray⟩) ?_ rfl
  simp only [execOp, h1, e1, e2, Option.map_none, Instr.sliceAt, Sem.run_bind, run_underlying ht, Result.andThen_ok]
  have hx : ∀ (a b : Nat), a ≤ b → b ≤ s.length → (⟨s.toArray⟩ : ByteArray).extract a b = ⟨((s.take b).drop a).toArray⟩ := by
    intro a b hab hb
    rw [ByteArray.extract_mk, List.drop_take]
  cases l with
  | none => cases r with
    | none =>
      simp [Instr.slice, run_underlying ht, Instr.sliceBounds, cutL]
    | some b =>
      simp only [cutOb, Bool.and_eq_true, decide_eq_true_eq] at hc
      have hb : 0 ≤ b ∧ b ≤ ((⟨s.toArray⟩ : ByteArray).size : Int) := ⟨hc.1, by simpa [ByteArray.size_mk'] using hc.2⟩
      simp [Instr.slice, run_underlying ht, Instr.sliceBounds, Instr.sliceBound, asIntOf, cutL, hb, hx 0 b.toNat (by omega) (by omega)]
  | some c => cases r with
    | none =>
      simp only [cutOb, Bool.and_eq_true, decide_eq_true_eq] at hc
      have hb : 0 ≤ c ∧ c ≤ (s.length : Int) := hc
      simp [Instr.slice, run_underlying ht, Instr.sliceBounds, Instr.sliceBound, asIntOf, cutL, hb, ByteArray.size_mk', hx c.toNat s.length (by omega) (Nat.le_refl _)]
    | some b =>
      simp only [cutOb, Bool.and_eq_true, decide_eq_true_eq] at hc
      have hb : 0 ≤ b ∧ b ≤ ((⟨s.toArray⟩ : ByteArray).size : Int) := ⟨by omega, by simpa [ByteArray.size_mk'] using hc.2⟩
      have hb' : 0 ≤ c ∧ c ≤ b := hc.1
      have hb'' : 0 ≤ c ∧ c ≤ ((b.toNat : Nat) : Int) := by omega
      simp [Instr.slice, run_underlying ht, Instr.sliceBounds, Instr.sliceBound, asIntOf, cutL, hb, hb'', hx c.toNat b.toNat (by omega) (by omega)]
      intro hlt; omega

theorem rows_cut {es : List (List AV)} {ad : Addr} {sz : Nat} (h : Rows E es ad) (hu : ∀ e ∈ es, e.length = sz) (k m : Nat) : Rows E ((es.take m).drop k) (ad.add (k * sz)) := by
  have htake : ∀ (es : List (List AV)) (ad : Addr) (m : Nat), Rows E es ad → Rows E (es.take m) ad := by
    intro es
    induction es with
    | nil => intro ad m _; simp [Rows]
    | cons e es ih =>
      intro ad m h
      cases m with
      | zero => simp [Rows]
      | succ m => exact ⟨h.1, ih _ m h.2⟩
  have hdrop : ∀ (es : List (List AV)) (ad : Addr) (k : Nat), (∀ e ∈ es, e.length = sz) → Rows E es ad → Rows E (es.drop k) (ad.add (k * sz)) := by
    intro es
    induction es with
    | nil => intro ad k _ _; simp [Rows]
    | cons e es ih =>
      intro ad k hu h
      cases k with
      | zero => simpa [Addr.add] using h
      | succ k =>
        have := ih (ad.add e.length) k (fun r hr => hu r (by simp [hr])) h.2
        rw [add_add', hu e (by simp)] at this
        rw [List.drop_succ_cons, Nat.add_mul, Nat.one_mul, Nat.add_comm]
        exact this
  exact hdrop _ _ k (fun e he => hu e (List.mem_of_mem_take he)) (htake es ad m h)

theorem cutL_eq {α : Type} (s : List α) (l r : Option Int) : cutL s l r = (s.take ((r.map Int.toNat).getD s.length)).drop ((l.map Int.toNat).getD 0) := by
  cases l <;> cases r <;> simp [cutL]

theorem op_slice_arr (H : Good G I B0 E) (hf : FrsOk E F a) (t e : TypeId) (n : Nat) (x : Operand) (lo : Option Operand) (ht : P.underlying t = some (.array n e)) {g g1 : Bool} {b o : Nat} {l : Int} {t0 : TypeId} {cs : List AV}
    (hx : ev G F x = (g, .ptr b o)) (hl : optI (lo.map (ev G F)) = some (g1, some l)) (hb : E.h[b]? = some (.mem t0 cs))
    (hob : (g && g1 && decide (0 ≤ l) && decide (l < n) && (P.info? e).isSome && Nat.ble (o + n * P.cellsOf e) cs.length && Nat.ble n 1000000) = true) :
    OpOk P G I B0 E a ⟨d, .slice t x lo none none, ty, pos, after, gd⟩ true (.osl b (o + l.toNat * P.cellsOf e) (n - l.toNat) (P.cellsOf e)) E.h := by
  simp only [Bool.and_eq_true, decide_eq_true_eq] at hob
  obtain ⟨⟨⟨⟨⟨⟨hg, hg1⟩, h0⟩, hn⟩, hin⟩, hlen⟩, hmx⟩ := hob
  have hlen := Nat.le_of_ble_eq_true hlen
  have hmx := Nat.le_of_ble_eq_true hmx
  obtain ⟨t2, cs2, gg, h2, h3, h4⟩ := ev_rel H hf hx hg
  rw [h2] at hb
  injection hb with hb
  injection hb with hb0 hb
  subst hb
  obtain ⟨k1, e1⟩ := optI_ok H hf hl hg1
  obtain ⟨i, hi⟩ := Option.isSome_iff_exists.1 hin
  have his : P.cellsOf e = i.size := by simp [Program.cellsOf, hi]
  have hln : l.toNat < n := by omega
  have hadd : (⟨gg, o, none⟩ : Addr).add (l.toNat * i.size) = ⟨gg, o + l.toNat * i.size, none⟩ := by
    unfold Addr.add
    split
    · rename_i hz; rw [hz]; rfl
    · rfl
  have hrun : (Instr.sliceAt t (.pointer (some ⟨gg, o, none⟩)) (some (.int k1 l)) none none).run P E.w = .ok (.slice (some ⟨gg, o + l.toNat * i.size, none⟩) (n - l.toNat) (n - l.toNat)) E.w := by
    have hle : l ≤ (n : Int) := by omega
    have hne : ¬ n = l.toNat := by omega
    simp [Instr.sliceAt, Instr.sureAddr, run_underlying ht, Instr.sliceBounds, Instr.sliceBound, asIntOf, sizeOf, typeInfo, hi, h0, hle, hne, hadd]
  refine OpOk.same H (.slice (some ⟨gg, o + l.toNat * i.size, none⟩) (n - l.toNat) (n - l.toNat)) ?_ ⟨t2, cs2, gg, n - l.toNat, h2, h3, by rw [his], Nat.le_refl _, ?_, ?_⟩
  · have e1' : lo.map a.eval = some (Value.int k1 l) := e1
    simp only [execOp, h4, e1', Option.map_none, Sem.run_bind, hrun, Result.andThen_ok]
    first | rfl | simp
  · unfold maxLen; omega
  · have hm : l.toNat * P.cellsOf e + (n - l.toNat) * P.cellsOf e = n * P.cellsOf e := by
      rw [← Nat.add_mul]; congr 1; omega
    omega
theorem op_slice_sl (H : Good G I B0 E) (hf : FrsOk E F a) (t e : TypeId) (x : Operand) (lo hi : Option Operand) (ht : P.underlying t = some (.slice e)) {g g1 g2 : Bool} {sz : Nat} {es : List (List AV)} {own : Option Nat} {l r : Option Int}
    (hx : ev G F x = (g, .sl sz es own)) (hl : optI (lo.map (ev G F)) = some (g1, l)) (hr : optI (hi.map (ev G F)) = some (g2, r)) (hin : (P.info? e).isSome = true)
    (hob : (g && g1 && g2 && cutOb es.length l r && (Nat.beq sz (P.cellsOf e) || es.isEmpty)) = true) :
    OpOk P G I B0 E a ⟨d, .slice t x lo hi none, ty, pos, after, gd⟩ true (.sl sz (cutL es l r) none) E.h := by
  simp only [Bool.and_eq_true] at hob
  obtain ⟨⟨⟨⟨hg, hg1⟩, hg2⟩, hc⟩, hsz⟩ := hob
  obtain ⟨⟨A, cap, h1, h2, h3, h4, h5⟩, _⟩ := ev_rel H hf hx hg
  obtain ⟨k1, e1⟩ := optI_ok H hf hl hg1
  obtain ⟨k2, e2⟩ := optI_ok H hf hr hg2
  obtain ⟨i, hi⟩ := Option.isSome_iff_exists.1 hin
  have his : P.cellsOf e = i.size := by simp [Program.cellsOf, hi]
  have hlo : 0 ≤ (l.map Int.toNat).getD 0 ∧ (l.map Int.toNat).getD 0 ≤ (r.map Int.toNat).getD es.length ∧ (r.map Int.toNat).getD es.length ≤ es.length := by
    cases l <;> cases r <;> simp only [cutOb, Bool.and_eq_true, decide_eq_true_eq, Option.map_none, Option.map_some, Option.getD_none, Option.getD_some] at hc ⊢ <;> omega
  have hrun : (Instr.sliceAt t (.slice A es.length cap) (l.map (Value.int k1)) (r.map (Value.int k2)) none).run P E.w =
      .ok (.slice (if cap = (l.map Int.toNat).getD 0 then A else A.map (·.add ((l.map Int.toNat).getD 0 * i.size))) ((r.map Int.toNat).getD es.length - (l.map Int.toNat).getD 0) (cap - (l.map Int.toNat).getD 0)) E.w := by
    simp only [Instr.sliceAt, Sem.run_bind, run_underlying ht, Result.andThen_ok]
    cases l with
    | none => cases r with
      | none => simp [Instr.slice, run_underlying ht, Instr.sliceBounds, sizeOf, typeInfo, hi]
      | some b =>
        simp only [cutOb, Bool.and_eq_true, decide_eq_true_eq] at hc
        have hb : 0 ≤ b ∧ b ≤ (cap : Int) := by omega
        simp [Instr.slice, run_underlying ht, Instr.sliceBounds, Instr.sliceBound, asIntOf, sizeOf, typeInfo, hi, hb]
    | some c => cases r with
      | none =>
        simp only [cutOb, Bool.and_eq_true, decide_eq_true_eq] at hc
        simp [Instr.slice, run_underlying ht, Instr.sliceBounds, Instr.sliceBound, asIntOf, sizeOf, typeInfo, hi, hc]
      | some b =>
        simp only [cutOb, Bool.and_eq_true, decide_eq_true_eq] at hc
        have hb : 0 ≤ b ∧ b ≤ (cap : Int) := by omega
        have hb' : 0 ≤ c ∧ c ≤ ((b.toNat : Nat) : Int) := by omega
        simp [Instr.slice, run_underlying ht, Instr.sliceBounds, Instr.sliceBound, asIntOf, sizeOf, typeInfo, hi, hb, hb']
        intro hlt; omega
  refine OpOk.same H _ (by simp only [execOp, h1, e1, e2, Option.map_none, Sem.run_bind, hrun]; rfl) ?_
  rw [cutL_eq]
  generalize (l.map Int.toNat).getD 0 = c at *
  generalize (r.map Int.toNat).getD es.length = m at *
  have hlen : ((es.take m).drop c).length = m - c := by simp; omega
  refine ⟨⟨_, cap - c, by rw [hlen], by rw [hlen]; omega, by omega, fun q hq => h4 q (List.mem_of_mem_take (List.mem_of_mem_drop hq)), fun hne => ?_⟩, trivial⟩
  have hlt : c < m := by
    rcases Nat.lt_or_ge c m with h | h
    · exact h
    · exact absurd (List.eq_nil_of_length_eq_zero (by rw [hlen]; omega)) hne
  have hes : es ≠ [] := by rintro rfl; simp at hlo; omega
  obtain ⟨ad, rfl, hrow⟩ := h5 hes
  have hszi : i.size = sz := by
    rw [← his]
    simp only [Bool.or_eq_true] at hsz
    rcases hsz with h | h
    · exact (Nat.eq_of_beq_eq_true h).symm
    · rw [List.isEmpty_iff] at h; exact absurd h hes
  rw [if_neg (by omega), hszi]
  exact ⟨_, rfl, rows_cut hrow h4 c m⟩

theorem op_append_core (hI : ∀ w w', I w → Below B0 w w' → I w') (H : Good G I B0 E) (hf : FrsOk E F a) (t t' e : TypeId) (s x : Operand) (ht : P.underlying t = some (.slice e)) {du : TypeDesc} (hu : P.underlying t' = some du) (hdu : ∀ k, du ≠ .int k) {g : Bool} {sz id : Nat} {es ns : List (List AV)} {i : TypeInfo} {z : Value}
    (hs : ev G F s = (g, .sl sz es (some id))) (hg : g = true) (hi : P.info? e = some i) (hz : i.zero = some z) (hzs : z.cells.size = i.size)
    (htag : tagOk E.h es.length (P.cellsOf e) e (some id) = true) (hsz : (Nat.beq sz (P.cellsOf e) || es.isEmpty) = true) (hpos : 0 < P.cellsOf e)
    (hby : (es.length + ns.length) * i.bytes ≤ 140737488355328) (hb1 : 1 ≤ i.bytes)
    (hns : ∀ r ∈ ns, r.length = i.size) {news : List Value} (hnews : Rels1 E ns.flatten news) (hlenOf : ∀ w' : World, (Builtin.lenOf (a.eval x)).run P w' = .ok ns.length w')
    (hread : ∀ w' : World, w'.heap = E.w.heap → (Builtin.firstCells i.size ns.length (a.eval x)).run P w' = .ok news.toArray w') :
    OpOk P G I B0 E a ⟨d, .call { callee := .builtin .append, args := #[s, x], argTypes := #[t, t'] }, ty, pos, after, gd⟩ true (.sl (P.cellsOf e) (es ++ ns) (some id)) (E.h.set id (.grow (es.length + ns.length) (P.cellsOf e) e)) := by
  have his : P.cellsOf e = i.size := by simp [Program.cellsOf, hi]
  rw [his] at htag hsz hpos ⊢
  have hrs := ev_rel H hf hs hg
  -- the lineage
  simp only [tagOk] at htag
  split at htag
  case h_2 => cases htag
  rename_i m sz2 e2 hblk
  simp only [Bool.and_eq_true] at htag
  obtain ⟨⟨q1, q2⟩, q3⟩ := htag
  have q1 := Nat.eq_of_beq_eq_true q1
  have q2 := Nat.eq_of_beq_eq_true q2
  have q3 := Nat.eq_of_beq_eq_true q3
  subst q1; subst q2; subst q3
  obtain ⟨⟨A, cap, h1, h2, h3, h4, h5⟩, ht1, ht2⟩ := hrs
  obtain ⟨_, ht3⟩ := ht2 _ _ _ hblk
  obtain ⟨_, ⟨xs, hown⟩, hob⟩ := ht3 rfl
  have hes : ∀ r ∈ es, r.length = i.size := by
    intro r hr
    simp only [Bool.or_eq_true] at hsz
    rcases hsz with h | h
    · rw [← Nat.eq_of_beq_eq_true h]; exact h4 r hr
    · rw [List.isEmpty_iff] at h; subst h; cases hr
  -- the cells that are there
  have hxs : Rels1 E es.flatten xs := by
    have hl := flatten_len es hes
    rcases hown.2 with ⟨_, hn⟩ | ⟨g0, cap0, cur, hv, hbg, hgg, hnc, hcm, hcs, htake⟩
    · have : es = [] := List.eq_nil_of_length_eq_zero hn
      subst this
      have : xs = [] := List.eq_nil_of_length_eq_zero (by simpa using hown.1)
      simp [this, Rels1]
    · rw [hv] at h1
      injection h1 with h1 _ _
      refine Rels1.iff.2 ⟨by rw [hl]; exact hown.1, fun j c v hc hvj => ?_⟩
      have hne : es ≠ [] := by rintro rfl; simp at hc
      obtain ⟨ad, hA, hrow⟩ := h5 hne
      rw [hA] at h1
      injection h1 with h1
      rw [Rows.iff] at hrow
      obtain ⟨u, p1, p2, _, p4⟩ := At.iff.1 hrow j c hc
      have hcell := hown.cells (g := g0) (by rw [hv]; rfl) j v hvj
      rw [h1] at hcell
      rw [hcell] at p1
      injection p1 with p1
      subst p1
      exact ⟨p2, p4⟩
  have hnl : news.length = ns.length * i.size := by rw [hnews.length]; exact flatten_len ns hns
  have hmax : es.length + ns.length ≤ maxLen := by
    have : es.length + ns.length ≤ (es.length + ns.length) * i.bytes := Nat.le_mul_of_pos_right _ hb1
    unfold maxLen
    omega
  obtain ⟨v', w', hrun, hown', hos, htp, hout, hcase⟩ := run_append_src (P := P) E.w E.B t t' ty e2 du i z ht hu hdu hi hz hzs hpos hb1 (a.eval s) es.length xs hown (a.eval x) ns.length news hnl hlenOf hread (rels1_one hnews) hmax hby H.size
  have S := step_append hI H hblk hown hob hown' hos htp hout hcase
  refine ⟨v', _, .inl ?_, S, rfl, fun _ => rows_of_own (n := es.length + ns.length) (e := e2) (xs := xs ++ news) (fun r hr => ?_) (by simp) (by simp [ht1]) (by show _ = upd E.σ id v'.ownBlock id; rw [upd_same]) hown' ?_ H.U
    (fun j y g0 hj hy hs1 hs2 => S.good.inj j id y (.grow (es.length + ns.length) i.size e2) g0 hj (by simp [ht1]) hy (by simp) hs1 hs2), fun h => by cases h⟩
  · simp only [execOp, resolve, List.map_toArray, List.map_cons, List.map_nil, Sem.run_bind, Sem.run_pure, Result.andThen_ok, invoke, builtin, hrun]
  · rcases List.mem_append.1 hr with h | h
    · exact hes r h
    · exact hns r h
  · rw [List.flatten_append]
    exact rels1_append (Rels1.mono S.le _ _ hxs) (Rels1.mono S.le _ _ hnews)


theorem op_append (hI : ∀ w w', I w → Below B0 w w' → I w') (H : Good G I B0 E) (hf : FrsOk E F a) (t e : TypeId) (s x : Operand) (ht : P.underlying t = some (.slice e)) {g g' : Bool} {sz sz' id : Nat} {es ns : List (List AV)} {own' : Option Nat} {i : TypeInfo} {z : Value}
    (hs : ev G F s = (g, .sl sz es (some id))) (hx : ev G F x = (g', .sl sz' ns own')) (hg : g = true) (hg' : g' = true) (hi : P.info? e = some i) (hz : i.zero = some z) (hzs : z.cells.size = i.size)
    (htag : tagOk E.h es.length (P.cellsOf e) e (some id) = true) (hsz : (Nat.beq sz (P.cellsOf e) || es.isEmpty) = true) (hsz' : (Nat.beq sz' (P.cellsOf e) || ns.isEmpty) = true) (hpos : 0 < P.cellsOf e)
    (hby : (es.length + ns.length) * i.bytes ≤ 140737488355328) (hb1 : 1 ≤ i.bytes) :
    OpOk P G I B0 E a ⟨d, .call { callee := .builtin .append, args := #[s, x], argTypes := #[t, t] }, ty, pos, after, gd⟩ true (.sl (P.cellsOf e) (es ++ ns) (some id)) (E.h.set id (.grow (es.length + ns.length) (P.cellsOf e) e)) := by
  have his : P.cellsOf e = i.size := by simp [Program.cellsOf, hi]
  obtain ⟨⟨A', cap', k1, k2, k3, k4, k5⟩, _⟩ := ev_rel H hf hx hg'
  have hns : ∀ r ∈ ns, r.length = i.size := by
    intro r hr
    simp only [Bool.or_eq_true] at hsz'
    rcases hsz' with h | h
    · rw [← his, ← Nat.eq_of_beq_eq_true h]; exact k4 r hr
    · rw [List.isEmpty_iff] at h; subst h; cases hr
  obtain ⟨news, hnews, hread⟩ : ∃ news, Rels1 E ns.flatten news ∧ ∀ w' : World, w'.heap = E.w.heap → (Builtin.firstCells i.size ns.length (a.eval x)).run P w' = .ok news.toArray w' := by
    by_cases hne : ns = []
    · subst hne
      refine ⟨[], by simp [Rels1], fun w' _ => ?_⟩
      rw [k1]
      cases A' with
      | none => simp [Builtin.firstCells]
      | some ad => simp [Builtin.firstCells, loadCells, loadCellsFrom]
    · obtain ⟨ad, hA, hrow⟩ := k5 hne
      rw [Rows.iff] at hrow
      obtain ⟨vs, p1, p2⟩ := hrow.rdb.vals
      refine ⟨vs, p1, fun w' hw => ?_⟩
      rw [k1, hA]
      exact run_firstCells_some w' i.size ns.length ad ns.length cap' vs (by rw [p1.length]; exact flatten_len ns hns) (fun j v hv => by
        have := p2 j v hv
        simpa [World.cell?, hw] using this)
  exact op_append_core hI H hf t t e s x ht ht (fun k h => by cases h) hs hg hi hz hzs htag hsz hpos hby hb1 hns hnews (fun w' => by rw [k1]; simp [Builtin.lenOf]) hread

theorem bytes_rels (E : Env) : ∀ l : List UInt8, Rels1 E (l.map fun b => AV.int .u8 (b.toNat : Int)) (l.map fun b => Value.int .u8 (b.toNat : Int))
  | [] => rfl
  | b :: l => ⟨_, _, rfl, rfl, rfl, bytes_rels E l⟩

theorem op_append_str (hI : ∀ w w', I w → Below B0 w w' → I w') (H : Good G I B0 E) (hf : FrsOk E F a) (t t' e : TypeId) (s x : Operand) (ht : P.underlying t = some (.slice e)) (ht' : P.underlying t' = some .string) {g g' : Bool} {sz id : Nat} {es : List (List AV)} {l : List UInt8} {i : TypeInfo} {z : Value}
    (hs : ev G F s = (g, .sl sz es (some id))) (hx : ev G F x = (g', .str l)) (hg : g = true) (hg' : g' = true) (hi : P.info? e = some i) (hz : i.zero = some z) (hzs : z.cells.size = i.size)
    (htag : tagOk E.h es.length (P.cellsOf e) e (some id) = true) (hsz : (Nat.beq sz (P.cellsOf e) || es.isEmpty) = true) (hone : P.cellsOf e = 1)
    (hby : (es.length + l.length) * i.bytes ≤ 140737488355328) (hb1 : 1 ≤ i.bytes) :
    OpOk P G I B0 E a ⟨d, .call { callee := .builtin .append, args := #[s, x], argTypes := #[t, t'] }, ty, pos, after, gd⟩ true (.sl (P.cellsOf e) (es ++ l.map fun b => [.int .u8 (b.toNat : Int)]) (some id)) (E.h.set id (.grow (es.length + l.length) (P.cellsOf e) e)) := by
  have his : P.cellsOf e = i.size := by simp [Program.cellsOf, hi]
  have hxv : a.eval x = .string ⟨l.toArray⟩ := ev_rel H hf hx hg'
  have hfl : (l.map fun b => [AV.int .u8 (b.toNat : Int)]).flatten = l.map fun b => AV.int .u8 (b.toNat : Int) := by
    clear hby hx hxv
    induction l with
    | nil => rfl
    | cons b l ih => simp [ih]
  have hll : (l.map fun b => [AV.int .u8 (b.toNat : Int)]).length = l.length := by simp
  rw [← hll] at hby ⊢
  refine op_append_core hI H hf t t' e s x ht ht' (fun k h => by cases h) hs hg hi hz hzs htag hsz (by omega) hby hb1 (fun r hr => ?_) (news := l.map fun b => Value.int .u8 (b.toNat : Int)) (by rw [hfl]; exact bytes_rels E l) (fun w' => ?_) (fun w' _ => ?_)
  · obtain ⟨b, _, rfl⟩ := List.mem_map.1 hr
    simp; omega
  · rw [hxv, hll]
    simp [Builtin.lenOf, ByteArray.size]
  · rw [hxv, hll]
    have h1 : ((⟨l.toArray⟩ : ByteArray).extract 0 l.length).data = l.toArray := by
      have : (⟨l.toArray⟩ : ByteArray).size = l.length := by simp [ByteArray.size]
      rw [← this, ByteArray.extract_zero_size]
    simp [Builtin.firstCells, h1]

end
end Go.Ai
