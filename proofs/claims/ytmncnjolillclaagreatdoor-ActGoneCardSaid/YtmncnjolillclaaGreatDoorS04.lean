/-
  SK, PART I. Operations that read the heap, and those that make one object.
-/
import Derived.Test.YtmncnjolillclaaGreatDoorS03
import Derived.Laws.Externs
import Derived.Laws.Append
import Derived.LoopN
namespace Go.Sk
variable {P : Program} {cx : Cx} {G : Nat} {ρ : Nat → Int} {T : TT} {Φ : Emb} {H : Heap} {w : World}

/-- What the table of methods says. -/
def MethOk (P : Program) (cx : Cx) : Prop := ∀ t m f, cx.meth t m = some f →
  (∀ (v : Value) (w : World), (method (P.types.size + Made.depth) t v m).run P w = .ok (f, v) w) ∧ ∀ (v : Value) (w : World), (nilAhead (P.types.size + Made.depth) t v m).run P w = .ok (some false) w

theorem VRs.single {v : V} {xs : List Value} (h : VRs ρ Φ [v] xs) : ∃ x, xs = [x] ∧ VR ρ Φ v x := by
  cases h with | cons a b => cases b; exact ⟨_, rfl, a⟩
theorem nilCheck_ok (hM : MethOk P cx) {x : Operand} {y : Opd} (h : opd x = some y) : PureOk P cx G ρ (.nilCheck x) (oNilCheck cx y) := by
  intro oper ho Φ H w env a v R hE hv
  unfold oNilCheck at hv
  split at hv
  · rename_i u he
    have r := eval_ok hE h he
    simp only [execOp, ho]
    generalize a.eval x = X at *
    unfold nilCheckV at hv
    split at hv
    · simp at hv; subst hv; cases r with | ptr hab => exact ⟨_, rfl, .ptr hab⟩
    · simp at hv; subst hv; cases r; exact ⟨_, rfl, .gptr _ _⟩
    · simp at hv; subst hv; cases r with | func h1 h2 => exact ⟨_, rfl, .func h1 h2⟩
    · rename_i m t z b
      split at hv
      · rename_i f hf
        simp at hv; subst hv
        cases r with
        | @func _ _ _ X1 X2 h1 h2 =>
          obtain ⟨q, hq, hr⟩ := h1.single
          have hX : X1 = #[q] := by cases X1; simpa using hq
          subst hX
          cases hr with
          | iface c =>
            refine ⟨_, ?_, .func (.cons (.iface c) .nil) h2⟩
            simp [(hM t m f hf).2]
      · cases hv
    · cases hv
  · cases hv

theorem max2_int {k k' : IntKind} {a b : Int} : (Builtin.max2 (.int k a) (.int k' b)).run P w = .ok (.int k (if b > a then b else a)) w := by simp [Builtin.max2]
theorem min2_int {k k' : IntKind} {a b : Int} : (Builtin.min2 (.int k a) (.int k' b)).run P w = .ok (.int k (if b < a then b else a)) w := by simp [Builtin.min2]
theorem maxE_ok : ∀ {l : List V} {v u : V} {x : Value} {xs : List Value} {m : Bool}, VR ρ Φ v x → VRs ρ Φ l xs → maxE m v l = some u →
    ∃ y, (xs.foldlM (if m then Builtin.max2 else Builtin.min2) x : Sem Value).run P w = .ok y w ∧ VR ρ Φ u y
  | [], v, u, x, xs, m, hv, hl, h => by
    cases hl
    have : u = v := by unfold maxE at h; simp at h; exact h.symm
    subst this
    exact ⟨x, by simp, hv⟩
  | q :: l, v, u, x, xs, m, hv, hl, h => by
    unfold maxE at h
    split at h
    · simp_all
    · rename_i k a k' b l' heq
      simp only [List.cons.injEq] at heq
      obtain ⟨rfl, rfl⟩ := heq
      cases hv
      cases hl with
      | cons h1 h2 =>
        cases h1
        cases m with
        | true =>
          simp only [cond_true, ile_eq, bif_ite] at h
          obtain ⟨y, e1, e2⟩ := maxE_ok (m := true) (VR.int k (.lit (if b ≤ a then a else b))) h2 h
          refine ⟨y, ?_, e2⟩
          simp only [IE.ev, if_true] at e1 ⊢
          rw [List.foldlM_cons, Sem.run_bind, max2_int, Result.andThen_ok]
          rw [show (if b > a then b else a) = (if b ≤ a then a else b) from by split <;> split <;> omega]
          exact e1
        | false =>
          simp only [cond_false, ile_eq, bif_ite] at h
          obtain ⟨y, e1, e2⟩ := maxE_ok (m := false) (VR.int k (.lit (if a ≤ b then a else b))) h2 h
          refine ⟨y, ?_, e2⟩
          simp only [IE.ev, Bool.false_eq_true, if_false] at e1 ⊢
          rw [List.foldlM_cons, Sem.run_bind, min2_int, Result.andThen_ok]
          rw [show (if b < a then b else a) = (if a ≤ b then a else b) from by split <;> split <;> omega]
          exact e1
    · cases h
theorem max_ok {c : Call} {x : Operand} {l : List Operand} {x' : Opd} {l' : List Opd} (hc : c.callee = .builtin .max) (ha : c.args.toList = x :: l) (hx : opd x = some x') (hl : opds l = some l') :
    PureOk P cx G ρ (.call c) (oMinMax true x' l') := by
  intro oper ho Φ H w env a v R hE hv
  unfold oMinMax at hv
  split at hv
  · cases hv
  · rename_i u he
    split at hv
    · cases hv
    · rename_i vs hvs
      obtain ⟨y, e1, e2⟩ := maxE_ok (P := P) (w := w) (eval_ok hE hx he) (evals_ok hE hl hvs) hv
      refine ⟨y, ?_, e2⟩
      simp only [if_true] at e1
      simp [execOp, ho, resolve, hc, invoke, builtin, Builtin.max_, ha, e1]
theorem min_ok {c : Call} {x : Operand} {l : List Operand} {x' : Opd} {l' : List Opd} (hc : c.callee = .builtin .min) (ha : c.args.toList = x :: l) (hx : opd x = some x') (hl : opds l = some l') :
    PureOk P cx G ρ (.call c) (oMinMax false x' l') := by
  intro oper ho Φ H w env a v R hE hv
  unfold oMinMax at hv
  split at hv
  · cases hv
  · rename_i u he
    split at hv
    · cases hv
    · rename_i vs hvs
      obtain ⟨y, e1, e2⟩ := maxE_ok (P := P) (w := w) (eval_ok hE hx he) (evals_ok hE hl hvs) hv
      refine ⟨y, ?_, e2⟩
      simp only [Bool.false_eq_true, if_false] at e1
      simp [execOp, ho, resolve, hc, invoke, builtin, Builtin.min_, ha, e1]

/-! ### Reading -/
def ReadOk (P : Program) (cx : Cx) (G : Nat) (ρ : Nat → Int) (o : Op) (r : Env → Heap → Option V) : Prop :=
  ∀ (oper : Oper), oper.op = o → ∀ Φ H w env (a : Act) v, Rel cx G ρ Φ H w → EnvR ρ Φ env a.tmps → r env H = some v →
    ∃ x, (execOp a.eval oper).run P w = .ok (.value x) w ∧ VR ρ Φ v x

theorem globCells_ok (R : Rel cx G ρ Φ H w) : ∀ {n g o : Nat} {l : List V}, globCells cx g o n = some l →
    ∃ xs : List Value, xs.length = n ∧ VRs ρ Φ l xs ∧ ∀ j x, xs[j]? = some x → w.cell? ⟨g, o + j, none⟩ = some x
  | 0, g, o, l, h => by simp [globCells] at h; subst h; exact ⟨[], rfl, .nil, by simp⟩
  | n + 1, g, o, l, h => by
    simp only [globCells] at h
    split at h
    · cases h
    · rename_i v hv
      split at h
      · cases h
      · rename_i l' hl
        simp at h; subst h
        obtain ⟨_, x, h1, h2⟩ := R.glob g o v hv
        obtain ⟨xs, h3, h4, h5⟩ := globCells_ok R hl
        refine ⟨x :: xs, by simp [h3], .cons h2 h4, fun j y hj => ?_⟩
        cases j with
        | zero => simp at hj; subst hj; exact h1
        | succ j => simp at hj; have := h5 j y hj; rwa [show o + 1 + j = o + (j + 1) by omega] at this

theorem run_loadCells_n {b : Addr} {xs : List Value} {n : Nat} (hn : xs.length = n) (h : ∀ j x, xs[j]? = some x → w.cell? (b.add j) = some x) :
    (loadCells b n).run P w = .ok xs.toArray w := by
  subst hn; exact run_loadCells_list w b xs h

/-- Loading a variable: its cells, or its one cell. -/
theorem loadVar_ok (hT : TTok P T) {t n : Nat} {b : Bool} (hb : T.agg t = some b) (hn : T.size t = some n) {ad : Addr} {l : List V} {xs : List Value} {v : V} (hlen : xs.length = n) (hx : VRs ρ Φ l xs)
    (hc : ∀ j x, xs[j]? = some x → w.cell? (ad.add j) = some x) (hv : (bif b then some (V.agg l) else match l with | [v] => some v | _ => none) = some v) :
    ∃ x, (loadVar t ad).run P w = .ok x w ∧ VR ρ Φ v x := by
  cases b with
  | true =>
    simp at hv; subst hv
    exact ⟨.agg xs.toArray, by simp [loadVar, run_isAgg hT w hb, run_size hT w hn, run_loadCells_n hlen hc], .agg (by simpa using hx)⟩
  | false =>
    simp only [cond_false] at hv
    split at hv
    · rename_i u
      simp at hv; subst hv
      cases hx with
      | cons h1 h2 =>
        cases h2
        have := hc 0 _ rfl
        simp only [Addr.add, if_true] at this
        exact ⟨_, by simp [loadVar, run_isAgg hT w hb, this], h1⟩
    · cases hv

theorem loadV_ok (R : Rel cx G ρ Φ H w) (hT : TTok P T) {t n : Nat} {b : Bool} (hb : T.agg t = some b) (hn : T.size t = some n) {u v : V} {X : Value} (r : VR ρ Φ u X) (hv : loadV cx H b n u = some v) :
    ∃ ad x, X = .pointer (some ad) ∧ (loadVar t ad).run P w = .ok x w ∧ VR ρ Φ v x := by
  unfold loadV at hv
  split at hv
  · split at hv
    · cases hv
    · rename_i d l hl
      cases r with
      | ptr hab =>
        obtain ⟨xs, h1, h2, _, h4⟩ := R.cellsAt hl hab
        obtain ⟨x, h5, h6⟩ := loadVar_ok hT hb hn h1 h2 h4 hv
        exact ⟨_, x, rfl, h5, h6⟩
  · rename_i g o
    split at hv
    · cases hv
    · rename_i l hl
      cases r
      obtain ⟨xs, h1, h2, h4⟩ := globCells_ok R hl
      have h4' : ∀ j x, xs[j]? = some x → w.cell? ((⟨g, o, none⟩ : Addr).add j) = some x := by
        intro j x hj
        rw [show (⟨g, o, none⟩ : Addr).add j = ⟨g, o + j, none⟩ from by
          unfold Addr.add; split
          · rename_i hz; rw [hz]; rfl
          · rfl]
        exact h4 j x hj
      obtain ⟨x, h5, h6⟩ := loadVar_ok hT hb hn h1 h2 h4' hv
      exact ⟨_, x, rfl, h5, h6⟩
  · cases hv
theorem load_ok (hT : TTok P T) {t n : Nat} {b : Bool} {x : Operand} {y : Opd} (hb : T.agg t = some b) (hn : T.size t = some n) (h : opd x = some y) :
    ReadOk P cx G ρ (.load t x) (oLoad cx b n y) := by
  intro oper ho Φ H w env a v R hE hv
  unfold oLoad at hv
  split at hv
  · rename_i u he
    obtain ⟨ad, x', h1, h2, h3⟩ := loadV_ok R hT hb hn (eval_ok hE h he) hv
    exact ⟨x', by simp [execOp, ho, h1, Instr.loadAt, Instr.sureAddr, h2], h3⟩
  · cases hv

theorem mapOf_ok (R : Rel cx G ρ Φ H w) {m : V} {X : Value} {es : List (V × V × Nat)} (r : VR ρ Φ m X) (h : mapOf H m = some es) :
    (X = .map none ∧ es = []) ∨ ∃ b res clock, X = .map (some b) ∧ w.heap[b]? = some (.map res clock) ∧ EntR ρ Φ es res.toList := by
  unfold mapOf at h
  split at h
  · simp at h; subst h; cases r; exact .inl ⟨rfl, rfl⟩
  · split at h
    · rename_i q es' clock hq
      simp at h; subst h
      cases r with
      | map hl =>
        obtain ⟨_, l, res, h1, _, h2, h3⟩ := R.obj _ _ hq
        rw [hl] at h1
        simp at h1; subst h1
        exact .inr ⟨_, res, clock, rfl, h2, h3⟩
    · cases h
  · cases h
theorem arr1 {α : Type} {xs : Array α} {x : α} (h : xs.toList = [x]) : xs = #[x] := by cases xs; simpa using h
theorem arr2 {α : Type} {xs : Array α} {x y : α} (h : xs.toList = [x, y]) : xs = #[x, y] := by cases xs; simpa using h
theorem run_len {c : Call} {x : Operand} {t : TypeId} {oper : Oper} {a : Act} (ho : oper.op = .call c) (hc : c.callee = .builtin .len) (ha : c.args.toList = [x]) (hat : c.argTypes.toList = [t]) {n : Nat}
    (hl : (Builtin.len_ #[t] oper.type #[a.eval x]).run P w = .ok (goInt n) w) : (execOp a.eval oper).run P w = .ok (.value (.int .i64 n)) w := by
  simp [execOp, ho, resolve, hc, arr1 ha, arr1 hat, invoke, builtin, hl, goInt]
theorem lenS_ok (hT : TTok P T) {c : Call} {x : Operand} {y : Opd} {t : TypeId} {e : Nat} (hc : c.callee = .builtin .len) (ha : c.args.toList = [x]) (hat : c.argTypes.toList = [t])
    (hu : T.und t = some (.slice e)) (h : opd x = some y) : PureOk P cx G ρ (.call c) (oLenS y) := by
  intro oper ho Φ H w env a v R hE hv
  unfold oLenS at hv
  split at hv
  · rename_i b n sz he
    have r := eval_ok hE h he
    simp at hv; subst hv
    refine ⟨_, run_len (n := n) ho hc ha hat ?_, VR.int .i64 (.lit (.ofNat n))⟩
    generalize a.eval x = X at *
    cases r <;> simp [Builtin.len_, run_und hT w hu]
  · cases hv
theorem lenT_ok (hT : TTok P T) {c : Call} {x : Operand} {y : Opd} {t : TypeId} (hc : c.callee = .builtin .len) (ha : c.args.toList = [x]) (hat : c.argTypes.toList = [t])
    (hu : T.und t = some .string) (h : opd x = some y) : PureOk P cx G ρ (.call c) (oLenT y) := by
  intro oper ho Φ H w env a v R hE hv
  unfold oLenT at hv
  split at hv
  · rename_i s he
    have r := eval_ok hE h he
    simp at hv; subst hv
    refine ⟨_, run_len (n := s.length) ho hc ha hat ?_, VR.int .i64 (.lit (.ofNat s.length))⟩
    generalize a.eval x = X at *
    cases r with
    | str q =>
      simp [Builtin.len_, run_und hT w hu]
  · cases hv
theorem EntR.length {es : List (V × V × Nat)} {rs : List MapEntry} (h : EntR ρ Φ es rs) : es.length = rs.length := by
  induction h with
  | nil => rfl
  | cons _ _ _ ih => simp [ih]
theorem lenM_ok (hT : TTok P T) {c : Call} {x : Operand} {y : Opd} {t : TypeId} {k e : Nat} (hc : c.callee = .builtin .len) (ha : c.args.toList = [x]) (hat : c.argTypes.toList = [t])
    (hu : T.und t = some (.map k e)) (h : opd x = some y) : ReadOk P cx G ρ (.call c) (oLenM y) := by
  intro oper ho Φ H w env a v R hE hv
  unfold oLenM at hv
  split at hv
  · rename_i u he
    have r := eval_ok hE h he
    split at hv
    · rename_i es hes
      simp at hv; subst hv
      refine ⟨_, run_len (n := es.length) ho hc ha hat ?_, VR.int .i64 (.lit (.ofNat es.length))⟩
      generalize a.eval x = X at *
      rcases mapOf_ok R r hes with ⟨rfl, rfl⟩ | ⟨b, res, clock, rfl, h1, h2⟩
      · simp [Builtin.len_, run_und hT w hu]
      · have hl := h2.length
        simp at hl
        simp [Builtin.len_, run_und hT w hu, getObj, Sem.run, h1, hl]
    · cases hv
  · cases hv


/-! ### Making objects -/
/-- What an operation that makes one object owes: the world with that object pushed, and the object's relation. -/
def AllocOk (P : Program) (cx : Cx) (G : Nat) (ρ : Nat → Int) (o : Op) (r : Env → Nat → Option (V × Obj)) : Prop :=
  ∀ (oper : Oper), oper.op = o → ∀ Φ H w env (a : Act) v ob n, Rel cx G ρ Φ H w → EnvR ρ Φ env a.tmps → (∀ e, Φ n e = none) → r env n = some (v, ob) →
    ∃ x ro l, (execOp a.eval oper).run P w = .ok (.value x) { w with heap := w.heap.push ro } ∧ l.blk = w.heap.size ∧ VR ρ (Φ.set n 0 l) v x ∧
      ObjR ρ (Φ.set n 0 l) { w with heap := w.heap.push ro } n ob

/-- A new row of cells. -/
theorem cells_new {cs : List V} {xs : List Value} {arr : Array Value} (t : TypeId) {n : Nat} (hfree : ∀ e, Φ n e = none)
    (hx : VRs ρ Φ cs xs) (ho : ∀ x ∈ xs, x.oneCell' = true) (ha : ∀ (j : Nat) x, xs[j]? = some x → arr[j]? = some x) :
    ObjR ρ (Φ.set n 0 ⟨w.heap.size, 0, arr.size, true⟩) { w with heap := w.heap.push (.cells arr t) } n (.cells (famOf cs)) := by
  refine ⟨?_, ?_, ?_, ?_⟩
  · intro e he
    rw [famOf_ep] at he
    rw [Emb.set_other _ _ _ _ (fun h => by omega)]; exact hfree e
  · intro p v lo hp hg
    rw [famOf_get] at hg
    rw [famOf_ep]
    cases h : cs[p]? with
    | none => rw [h] at hg; cases hg
    | some u => rw [h] at hg; simp at hg; omega
  · intro l hl p hp q hq
    rw [famOf_ep, Emb.set_same] at hl
    obtain rfl : (⟨w.heap.size, 0, arr.size, true⟩ : Loc) = l := by simpa using hl
    rw [famOf_size] at hp
    simp only at hq ⊢
    have hlt : p < xs.length := by rw [← hx.length]; exact hp
    have := ha p xs[p] (List.getElem?_eq_getElem hlt)
    have := (Array.getElem?_eq_some_iff.1 this).1
    omega
  · intro e he
    rw [famOf_ep] at he
    obtain rfl : e = 0 := by omega
    refine ⟨_, Emb.set_same _ _ _ _, rfl, arr, t, by simp, rfl, fun p v lo hp hg _ q hq => ?_⟩
    rw [famOf_get] at hg
    cases h : cs[p]? with
    | none => rw [h] at hg; cases hg
    | some u =>
      rw [h] at hg
      simp at hg
      obtain ⟨rfl, rfl⟩ := hg
      obtain ⟨x, hxx, hv⟩ := hx.get h
      simp only at hq
      obtain rfl : q = p := by omega
      exact ⟨x, ha q x hxx, hv.le (Emb.le_set _ (hfree 0)), ho x (List.mem_of_getElem? hxx)⟩
theorem AR_new {n : Nat} (sz : Nat) : AR (Φ.set n 0 ⟨w.heap.size, 0, sz, true⟩) ⟨n, 0, 0⟩ ⟨w.heap.size, 0, none⟩ :=
  ⟨_, Emb.set_same _ _ _ _, rfl, rfl, rfl, rfl⟩

theorem alloc_ok (hT : TTok P T) {t n : Nat} {z : V} (hz : T.zero t = some z) (hn : T.size t = some n) (hl : z.cells.length = n) (hf : allFlat z.cells = true) :
    AllocOk P cx G ρ (.alloc t) (oAlloc z.cells) := by
  intro oper ho Φ H w env a v ob m R hE hfree hv
  simp only [oAlloc, Option.some.injEq, Prod.mk.injEq] at hv
  obtain ⟨rfl, rfl⟩ := hv
  obtain ⟨zv, hz1, hz2⟩ := zero_ok hT hz w
  have hc := (hz2 ρ Φ).cells
  exact ⟨_, _, _, by simp [execOp, ho, Instr.alloc, hz1, newVar, newRow]; rfl, rfl, .ptr (AR_new _), cells_new t hfree hc (allFlat_of hf hc) (fun j x hj => by simpa using hj)⟩
theorem box_ok (hT : TTok P T) {t n : Nat} {x : Operand} {y : Opd} (hn : T.size t = some n) (h : opd x = some y) :
    AllocOk P cx G ρ (.box t x) (oBox n y) := by
  intro oper ho Φ H w env a v ob m R hE hfree hv
  unfold oBox at hv
  split at hv
  · rename_i u he
    simp only [nbeq] at hv
    by_cases hc : u.cells.length = n ∧ allFlat u.cells = true
    · simp only [hc, decide_true, Bool.and_self, cond_true, Option.some.injEq, Prod.mk.injEq] at hv
      obtain ⟨rfl, rfl⟩ := hv
      have r := (eval_ok hE h he).cells
      exact ⟨_, _, _, by simp [execOp, ho, Instr.box, newVar, newRow]; rfl, rfl, .ptr (AR_new _), cells_new t hfree r (allFlat_of hc.2 r) (fun j x hj => by simpa using hj)⟩
    · have : (decide (u.cells.length = n) && allFlat u.cells) = false := by
        rw [Bool.eq_false_iff]; intro hh; simp only [Bool.and_eq_true, decide_eq_true_eq] at hh; exact hc hh
      rw [this] at hv; cases hv
  · cases hv
theorem mkMap_ok {t : TypeId} : AllocOk P cx G ρ (.makeMap t none) oMkMap := by
  intro oper ho Φ H w env a v ob m R hE hfree hv
  simp only [oMkMap, Option.some.injEq, Prod.mk.injEq] at hv
  obtain ⟨rfl, rfl⟩ := hv
  have hm : Φ.set m 0 ⟨w.heap.size, 0, 0, false⟩ m 0 = some ⟨w.heap.size, 0, 0, false⟩ := Emb.set_same _ _ _ _
  refine ⟨.map (some w.heap.size), .map #[] 0, ⟨w.heap.size, 0, 0, false⟩, by simp [execOp, ho, Instr.makeMap], rfl, .map hm, ?_, _, #[], hm, rfl, by simp, .nil⟩
  intro e he
  rw [Emb.set_other _ _ _ _ (fun h => by omega)]; exact hfree e


theorem replicate_get {α : Type} (l : List α) : ∀ (k i : Nat), ((List.replicate k l).flatten)[i]? = if i < k * l.length then l[i % l.length]? else none
  | 0, i => by simp
  | k + 1, i => by
    simp only [List.replicate_succ, List.flatten_cons]
    have hm : (k + 1) * l.length = k * l.length + l.length := Nat.succ_mul _ _
    by_cases h : i < l.length
    · rw [List.getElem?_append_left h, if_pos (by omega), Nat.mod_eq_of_lt h]
    · rw [List.getElem?_append_right (by omega), replicate_get l k (i - l.length)]
      by_cases h2 : i < (k + 1) * l.length
      · rw [if_pos (by omega), if_pos h2]
        congr 1
        conv => rhs; rw [show i = (i - l.length) + l.length by omega, Nat.add_mod_right]
      · rw [if_neg (by omega), if_neg h2]
theorem zeros_ok {cs : List V} {zs : Array Value} (h : VRs ρ Φ cs zs.toList) (hpos : 0 < cs.length) (k : Nat) :
    VRs ρ Φ ((List.replicate k cs).flatten) (((Array.range (k * cs.length)).map fun i => zs[i % zs.size]!).toList) := by
  have hl := h.toArray
  refine VRs.of_get ?_ ?_
  · simp
  · intro i v x hv hx
    rw [replicate_get] at hv
    split at hv
    · rename_i hi
      obtain ⟨y, h1, h2⟩ := h.get hv
      rw [Array.getElem?_toList] at hx h1
      simp only [Array.getElem?_map, Array.getElem?_range, hi, if_true, Option.map_some, Option.some.injEq] at hx
      rw [← hx, ← hl]
      have : zs[i % cs.length]! = y := by
        rw [getElem!_def, h1]
      rw [this]; exact h2
    · cases hv
theorem allFlat_append (a b : List V) : allFlat (a ++ b) = (allFlat a && allFlat b) := by
  induction a with
  | nil => simp [allFlat]
  | cons v a ih => simp [allFlat, ih, Bool.and_assoc]
theorem allFlat_zeros {cs : List V} (h : allFlat cs = true) : ∀ k, allFlat ((List.replicate k cs).flatten) = true
  | 0 => rfl
  | k + 1 => by simp only [List.replicate_succ, List.flatten_cons, allFlat_append, h, allFlat_zeros h k, Bool.and_self]

theorem allFlat_set {cs : List V} {v : V} (h : allFlat cs = true) (hv : v.flat = true) : ∀ n, allFlat (cs.set n v) = true := by
  induction cs with
  | nil => intro n; simp [allFlat]
  | cons u cs ih =>
    simp only [allFlat, Bool.and_eq_true] at h
    intro n
    cases n with
    | zero => simp [allFlat, hv, h.2]
    | succ n => simp [allFlat, h.1, ih h.2 n]
theorem allFlat_listSet : ∀ (vs : List V) (cs : List V) (off : Nat), allFlat cs = true → allFlat vs = true → allFlat (listSet cs off vs) = true
  | [], _, _, h, _ => h
  | v :: vs, cs, off, h, hv => by
    simp only [allFlat, Bool.and_eq_true] at hv
    exact allFlat_listSet vs _ _ (allFlat_set h hv.1 off) hv.2
theorem allFlat_fill {env : Env} : ∀ {ps : List (Nat × Nat × Opd)} {cs out : List V}, allFlat cs = true → fillParts env cs ps = some out → allFlat out = true ∧ out.length = cs.length
  | [], cs, out, h, hf => by simp [fillParts] at hf; subst hf; exact ⟨h, rfl⟩
  | (off, sz, x) :: ps, cs, out, h, hf => by
    simp only [fillParts] at hf
    split at hf
    · cases hf
    · rename_i v hv
      cases hc : (Nat.beq v.cells.length sz && Nat.ble (off + sz) cs.length && allFlat v.cells) with
      | false => rw [hc] at hf; cases hf
      | true =>
        rw [hc] at hf
        simp only [Bool.and_eq_true] at hc
        obtain ⟨h1, h2⟩ := allFlat_fill (allFlat_listSet _ _ _ h hc.2) hf
        exact ⟨h1, by rw [h2, listSet_length]⟩

theorem buildSlice_ok (hT : TTok P T) {t e len n : Nat} {z : V} {parts : Array (Nat × Operand)} {ps : List (Nat × Nat × Opd)}
    (hu : T.und t = some (.slice e)) (hn : T.size e = some n) (hz : T.zero e = some z) (hpos : 0 < n) (hlen : len * n ≤ 10000) (hl : z.cells.length = n) (hf : allFlat z.cells = true)
    (hps : partsOf (fun i => some (i * n, n)) parts.toList = some ps) :
    AllocOk P cx G ρ (.buildSlice t len parts) (oBuildSlice n len (List.replicate len z.cells).flatten ps) := by
  intro oper ho Φ H w env a v ob m R hE hfree hv
  unfold oBuildSlice at hv
  split at hv
  · rename_i cs hcs
    simp only [Option.some.injEq, Prod.mk.injEq] at hv
    obtain ⟨rfl, rfl⟩ := hv
    obtain ⟨zv, hz1, hz2⟩ := zero_ok hT hz w
    have hzc := (hz2 ρ Φ).cells
    have hzs := zeros_ok hzc (by omega) len
    rw [hl] at hzs
    obtain ⟨o, ho1, ho2⟩ := fill_ok hE hps hcs hzs
    obtain ⟨hflat, hclen⟩ := allFlat_fill (allFlat_zeros hf len) hcs
    have hsz : o.size = len * n := by
      rw [← ho2.toArray, hclen]
      simp [hl]
    have hmap : (parts.map fun x => (x.fst, a.eval x.snd)).toList = parts.toList.map fun x => (x.fst, a.eval x.snd) := by simp
    refine ⟨.slice (some ⟨w.heap.size, 0, none⟩) len len, .cells o e, ⟨w.heap.size, 0, o.size, true⟩, ?_, rfl, .slice (AR_new _) (Emb.set_same _ _ _ _) (Nat.le_refl _) (by simp [hsz]), cells_new e hfree ho2 (allFlat_of hflat ho2) (fun j x hj => by simpa using hj)⟩
    have h24 : ¬ (len * n > 2 ^ 24) := by omega
    have hfill : Instr.fill (fun i => some (i * n, n)) ((Array.range (len * n)).map (fun i => (if len * n = 0 then #[] else zv.cells)[i % (if len * n = 0 then #[] else zv.cells).size]!)) (parts.toList.map fun x => (x.fst, a.eval x.snd)) = some o := by
      rw [← ho1]
      congr 1
      by_cases h0 : len * n = 0
      · simp [h0]
      · simp [h0]
    simp only [execOp, ho, Instr.buildSlice, Sem.run_bind, Sem.run_map, bind_pure_comp, run_und hT w hu, Result.andThen_ok, run_size hT w hn, Sem.run_ite, h24, if_false, hmap]
    by_cases h0 : len * n = 0
    · rw [if_pos h0]
      simp only [if_pos h0] at hfill
      simp only [Sem.run_pure, Result.andThen_ok, hfill, Sem.run_map, Sem.run_bind, newRow, run_newObj, bind_pure_comp]
    · rw [if_neg h0]
      simp only [if_neg h0] at hfill
      simp only [hz1, Sem.run_pure, Result.andThen_ok, hfill, Sem.run_map, Sem.run_bind, newRow, run_newObj, bind_pure_comp]
  · cases hv


theorem run_makeSlice (hT : TTok P T) {t e : Nat} {i : TypeInfo} {z : Value} {k k' : IntKind} {l c : Nat} (hu : T.und t = some (.slice e)) (hi : T e = some i) (hz : (zeroValue e).run P w = .ok z w)
    (hlc : l ≤ c) (hc : c * i.bytes ≤ 1099511627776) (hc2 : c ≤ 1099511627776) (hs : 0 < i.size) :
    (Instr.makeSlice t (.int k l) (.int k' c)).run P w =
      .ok (.slice (some ⟨w.heap.size, 0, none⟩) l c) { w with heap := w.heap.push (.cells ((Array.range (c * i.size)).map fun j => (if c * i.size = 0 then #[] else z.cells)[j % (if c * i.size = 0 then #[] else z.cells).size]!) e) } := by
  have hw : ∀ n : Nat, n ≤ 1099511627776 → IntKind.i64.wrap (n : Int) = n := by
    intro n hn; exact (wrap_in .i64 n (by simp [IntKind.min, IntKind.max, IntKind.bits, IntKind.signed]; omega)).symm
  have hbc : ¬ ((i.bytes : Int) * c > 2 ^ 48) := by
    have h1 : (i.bytes : Int) * c = ((c * i.bytes : Nat) : Int) := by push_cast; rw [Int.mul_comm]
    rw [h1]; omega
  have hnot : (decide ((c : Int) < 0) || decide ((i.bytes : Int) * c > 2 ^ 48)) = false := by
    simp only [Bool.or_eq_false_iff, decide_eq_false_iff_not]
    exact ⟨by omega, hbc⟩
  have h1 : ¬ ((l : Int) < 0) := by omega
  have h2 : ¬ ((l : Int) > c) := by omega
  have hsz : (sizeOf e).run P w = .ok i.size w := by simp [sizeOf, run_info hT w hi]
  simp only [Instr.makeSlice, Sem.run_bind, Sem.run_map, bind_pure_comp, run_und hT w hu, Result.andThen_ok, asInt, asIntOf, Sem.run_pure, run_info hT w hi, hw c hc2, hw l (by omega), hnot]
  rw [Sem.run_ite, if_neg]
  · simp only [Sem.run_bind, Sem.run_map, run_askRoom, Result.andThen_ok, hsz, Int.toNat_natCast, Sem.run_ite]
    by_cases h0 : c * i.size = 0
    · simp only [if_pos h0, Sem.run_pure, Result.andThen_ok, newRow, run_newObj, Sem.run_bind, Sem.run_map, bind_pure_comp]
    · simp only [if_neg h0, hz, Sem.run_pure, Result.andThen_ok, newRow, run_newObj, Sem.run_bind, Sem.run_map, bind_pure_comp]
  · simp [h1, h2]
theorem mkSlice_ok (hT : TTok P T) {t e : Nat} {i : TypeInfo} {z : V} {l c : Operand} {l' c' : Opd} (hu : T.und t = some (.slice e)) (hi : T e = some i) (hz : T.zero e = some z)
    (hl : opd l = some l') (hc : opd c = some c') (hs : 0 < i.size) (hzl : z.cells.length = i.size) (hf : allFlat z.cells = true) :
    AllocOk P cx G ρ (.makeSlice t l c) (oMkSlice i.size i.bytes z.cells l' c') := by
  intro oper ho Φ H w env a v ob m R hE hfree hv
  unfold oMkSlice at hv
  split at hv
  · cases hv
  · rename_i ln hln
    split at hv
    · cases hv
    · rename_i cn hcn
      simp only [nble, ← Bool.decide_and, bif_ite] at hv
      split at hv
      · rename_i hcond
        obtain ⟨⟨c1, c2⟩, c3⟩ := hcond
        simp only [Option.some.injEq, Prod.mk.injEq] at hv
        obtain ⟨rfl, rfl⟩ := hv
        obtain ⟨k, hk⟩ := natOf_ok hE hl hln
        obtain ⟨k', hk'⟩ := natOf_ok hE hc hcn
        obtain ⟨zv, hz1, hz2⟩ := zero_ok hT hz w
        have hzc := (hz2 ρ Φ).cells
        have hzl' := hzc.toArray
        have hrun := run_makeSlice (k := k) (k' := k') hT hu hi hz1 c1 c2 c3 hs
        generalize harr : ((Array.range (cn * i.size)).map fun j => (if cn * i.size = 0 then #[] else zv.cells)[j % (if cn * i.size = 0 then #[] else zv.cells).size]!) = arr at hrun
        have hsz : arr.size = cn * i.size := by rw [← harr]; simp
        have hzs := zeros_ok hzc (by omega) ln
        have hle : ln * i.size ≤ cn * i.size := Nat.mul_le_mul_right _ c1
        refine ⟨.slice (some ⟨w.heap.size, 0, none⟩) ln cn, .cells arr e, ⟨w.heap.size, 0, arr.size, true⟩, ?_, rfl, .slice (AR_new _) (Emb.set_same _ _ _ _) c1 (by simp [hsz]), cells_new e hfree hzs (allFlat_of (allFlat_zeros hf ln) hzs) ?_⟩
        · simp [execOp, ho, hk, hk', hrun]
        · intro j x hj
          rw [hzl] at hj
          rw [Array.getElem?_toList] at hj
          have hjl : j < ln * i.size := by
            have := (Array.getElem?_eq_some_iff.1 hj).1
            simpa using this
          simp only [Array.getElem?_map, Array.getElem?_range, hjl, if_true, Option.map_some, Option.some.injEq] at hj
          rw [← harr]
          have h0 : cn * i.size ≠ 0 := by omega
          simp only [h0, if_false, Array.getElem?_map, Array.getElem?_range, show j < cn * i.size by omega, if_true, Option.map_some]
          rw [hj]
      · cases hv

end Go.Sk

/-
  SK, PART J. Operations with effects on cells: stores, appends, copies.
-/
namespace Go.Sk
variable {P : Program} {cx : Cx} {G : Nat} {ρ : Nat → Int} {T : TT} {Φ : Emb} {H : Heap} {w : World}

def EffOk (P : Program) (cx : Cx) (G : Nat) (ρ : Nat → Int) (o : Op) (r : Env → Heap → Option (V × Heap)) : Prop :=
  ∀ (oper : Oper), oper.op = o → ∀ Φ H w env (a : Act) v H', Rel cx G ρ Φ H w → EnvR ρ Φ env a.tmps → Free Φ H.next H'.next → r env H = some (v, H') →
    ∃ nx w' Φ' x, (execOp a.eval oper).run P w = .ok nx w' ∧ (nx = .value x ∨ (nx = .skip ∧ x = undef)) ∧ VR ρ Φ' v x ∧ Rel cx G ρ Φ' H' w' ∧ Ext Φ H w Φ' H' w'

theorem done_some {h : Option Heap} {v : V} {H' : Heap} (e : done h = some (v, H')) : h = some H' ∧ v = .tuple [] := by
  unfold done at e
  split at e
  · simp at e; exact ⟨by rw [e.2], e.1.symm⟩
  · cases e
theorem undef_ok : VR ρ Φ (.tuple []) undef := .tuple (xs := #[]) .nil

theorem store_ok (hT : TTok P T) {t n : Nat} {x y : Operand} {x' y' : Opd} (hn : T.size t = some n) (hx : opd x = some x') (hy : opd y = some y') :
    EffOk P cx G ρ (.store t x y) (oStore n x' y') := by
  intro oper ho Φ H w env a v H' R hE hF hv
  unfold oStore at hv
  split at hv
  · rename_i d he
    split at hv
    · cases hv
    · rename_i u hu
      cases hc : (Nat.beq u.cells.length n && allFlat u.cells) with
      | false => rw [hc] at hv; cases hv
      | true =>
        rw [hc] at hv
        simp only [Bool.and_eq_true, nbeq, decide_eq_true_eq] at hc
        simp only [cond_true] at hv
        obtain ⟨hw, rfl⟩ := done_some hv
        have r1 := eval_ok hE hx he
        have r2 := (eval_ok hE hy hu).cells
        have hlen : (a.eval y).cells.size = n := by rw [← r2.toArray]; exact hc.1
        generalize hX : a.eval x = X at *
        cases r1 with
        | ptr hab =>
          obtain ⟨w', h1, h2, h3⟩ := R.write (P := P) hw hab r2 (allFlat_of hc.2 r2)
          refine ⟨.skip, w', Φ, undef, ?_, .inr ⟨rfl, rfl⟩, undef_ok, h2, h3⟩
          simp [execOp, ho, hX, Instr.storeAt, Instr.sureAddr, storeVar, run_size hT w hn, hlen, h1]
  · cases hv

/-- What is appended. -/
theorem src_ok (R : Rel cx G ρ Φ H w) {sz n : Nat} {l : List V} {u : V} {X : Value} (r : VR ρ Φ u X) (h : srcCells H sz u = some (n, l)) :
    (∀ w' : World, (Builtin.lenOf X).run P w' = .ok n w') ∧ ∃ xs : List Value, VRs ρ Φ l xs ∧ xs.length = n * sz ∧ (∀ x ∈ xs, x.oneCell' = true) ∧
      ∀ w' : World, w'.heap = w.heap → (Builtin.firstCells sz n X).run P w' = .ok xs.toArray w' := by
  unfold srcCells at h
  split at h
  · simp at h; obtain ⟨rfl, rfl⟩ := h
    cases r
    exact ⟨fun _ => rfl, [], .nil, by simp, by simp, fun _ _ => rfl⟩
  · rename_i d len sz'
    simp only [nbeq, bif_ite] at h
    split at h
    · rename_i h0
      simp at h; obtain ⟨rfl, rfl⟩ := h
      refine ⟨?_, [], .nil, by simp, by simp, ?_⟩
      · intro w'; cases r <;> simp [Builtin.lenOf, h0]
      · intro w' _; cases r <;> simp [Builtin.firstCells, loadCells, loadCellsFrom]
    · rename_i h0
      split at h
      · rename_i hsz; subst hsz
        split at h
        · rename_i l' hl
          simp at h; obtain ⟨rfl, rfl⟩ := h
          cases r with
          | slice hab hL hlen hroom =>
            obtain ⟨xs, h1, h2, h3, h4⟩ := R.cellsAt hl hab
            refine ⟨fun _ => rfl, xs, h2, h1, h3, fun w' hw' => ?_⟩
            have : ∀ j x, xs[j]? = some x → w'.cell? (Addr.add _ j) = some x := fun j x hj => by
              rw [World.cell_of_heap (w := w) (by rw [hw'])]; exact h4 j x hj
            simp only [Builtin.firstCells]
            exact run_loadCells_n h1 this
          | slice0 => exact absurd rfl h0
        · cases h
      · cases h
  · rename_i s
    simp only [nbeq, bif_ite] at h
    split at h
    · rename_i hsz; subst hsz
      simp at h; obtain ⟨rfl, rfl⟩ := h
      cases r with
      | str q =>
        have hq : q.data.toList.length = q.size := by simp
        refine ⟨fun w' => by simp [Builtin.lenOf], (q.data.toList.map fun b => Value.int .u8 b.toNat), ?_, by simp, by simp [Value.oneCell'], fun w' _ => ?_⟩
        · refine VRs.of_get (by simp) fun i v x h1 h2 => ?_
          simp only [List.map_map, List.getElem?_map, Option.map_eq_some_iff] at h1 h2
          obtain ⟨b, hb1, rfl⟩ := h1
          obtain ⟨c, hc1, rfl⟩ := h2
          rw [hb1] at hc1
          obtain rfl : b = c := by simpa using hc1
          exact VR.int .u8 (.lit (.ofNat b.toNat))
        · have he : q.extract 0 q.size = q := by
            apply ByteArray.ext
            simp
          simp only [Builtin.firstCells, List.length_map, hq, he, Sem.run_pure]
          congr 1
          apply Array.ext'
          simp
    · cases h
  · cases h


theorem size_zeroCells' (z : Array Value) (n : Nat) : (Builtin.zeroCells z n).size = n * z.size := by simp [Builtin.zeroCells]
section append
variable (hT : TTok P T) {st xt e : Nat} {i : TypeInfo} {xd : TypeDesc} (hst : T.und st = some (.slice e)) (hxt : T.und xt = some xd) (hxd : ∀ k, xd ≠ .int k) (hi : T e = some i) {ty : TypeId}
include hT hst hxt hxd hi
theorem run_append_fit {base : Option Addr} {sLen sCap n : Nat} {X : Value} {xs : List Value} (hn : (Builtin.lenOf X).run P w = .ok n w) (hx : (Builtin.firstCells i.size n X).run P w = .ok xs.toArray w)
    (hfit : sLen + n ≤ sCap) : (Builtin.append_ #[st, xt] ty #[.slice base sLen sCap, X]).run P w =
      match base with
      | some b => ((storeCells (b.add (sLen * i.size)) xs).run P w).andThen fun _ w' => .ok (.slice base (sLen + n) sCap) w'
      | none => .ok (.slice base (sLen + n) sCap) w := by
  have hz : (xd matches .int _) = false := by cases xd <;> first | rfl | exact absurd rfl (hxd _)
  have hsz : (sizeOf e).run P w = .ok i.size w := by simp [sizeOf, run_info hT w hi]
  cases base <;> simp [Builtin.append_, run_und hT w hst, run_und hT w hxt, hsz, hn, hfit, hx]
theorem run_append_big {base : Option Addr} {sLen sCap n : Nat} {X : Value} {xs old : List Value} {z : Value} (hn : (Builtin.lenOf X).run P w = .ok n w)
    (hx : ∀ w' : World, w'.heap = w.heap → (Builtin.firstCells i.size n X).run P w' = .ok xs.toArray w')
    (ho : ∀ w' : World, w'.heap = w.heap → (Builtin.firstCells i.size sLen (.slice base sLen sCap)).run P w' = .ok old.toArray w')
    (hzero : ∀ w' : World, (zeroValue e).run P w' = .ok z w') (hb0 : 0 < i.bytes)
    (hbig : sCap < sLen + n) (hbytes : (sLen + n) * i.bytes ≤ 70368744177664) :
    ∃ c w', sLen + n ≤ c ∧ (Builtin.append_ #[st, xt] ty #[.slice base sLen sCap, X]).run P w = .ok (.slice (some ⟨w.heap.size, 0, none⟩) (sLen + n) c) w' ∧
      w'.heap = w.heap.push (.cells (old.toArray ++ (xs.toArray ++ Builtin.zeroCells z.cells (c - (sLen + n)))) e) ∧ Outer w w' := by
  have hz : (xd matches .int _) = false := by cases xd <;> first | rfl | exact absurd rfl (hxd _)
  have hsz : ∀ w' : World, (sizeOf e).run P w' = .ok i.size w' := fun w' => by simp [sizeOf, run_info hT w' hi]
  have hcap : ¬ (Builtin.nextslicecap (sLen + n) sCap * i.bytes > 2 ^ 48) := by
    have := growslice_fits (need := sLen + n) (old := sCap) (bytes := i.bytes) hbig (by omega)
    omega
  have hnfit : ¬ (sLen + n ≤ sCap) := by omega
  refine ⟨(Question.appendCap (sLen + n) sCap e).cut (w.tape w.drawn (.appendCap (sLen + n) sCap e)),
    w.drew.alloc (.cells (old.toArray ++ (xs.toArray ++ Builtin.zeroCells z.cells ((Question.appendCap (sLen + n) sCap e).cut (w.tape w.drawn (.appendCap (sLen + n) sCap e)) - (sLen + n)))) e), by simp [Question.cut], ?_, rfl, ⟨rfl, rfl, rfl, Nat.le_succ _⟩⟩
  generalize hc : (Question.appendCap (sLen + n) sCap e).cut (w.tape w.drawn (.appendCap (sLen + n) sCap e)) = c
  have hinfo : ∀ w' : World, (typeInfo e).run P w' = .ok i w' := fun w' => run_info hT w' hi
  have hcap' : ¬ (281474976710656 < Builtin.nextslicecap (sLen + n) sCap * i.bytes) := hcap
  have hb1 : i.bytes ≠ 0 := by omega
  have hforced : (Question.appendCap (sLen + n) sCap e).forced = false := rfl
  have hdrew : w.drew.heap = w.heap := rfl
  simp [Builtin.append_, run_und hT w hst, run_und hT w hxt, hsz, hn, hnfit, hinfo, hb1, hcap', hforced, ho w.drew hdrew, hx w.drew hdrew, hzero, newRow, hc]
end append

theorem ObjR.congr {w w' : World} (hw : w'.heap = w.heap) {f : Nat} {o : Obj} (h : ObjR ρ Φ w f o) : ObjR ρ Φ w' f o :=
  h.keep (fun _ _ _ h => h) rfl (fun _ _ _ => by rw [hw])
theorem Rel.congr {w w' : World} (hw : w'.heap = w.heap) (R : Rel cx G ρ Φ H w) : Rel cx G ρ Φ H w' where
  obj := fun f o h => (R.obj f o h).congr hw
  inj := R.inj
  dom := fun f e l h => by rw [hw]; exact R.dom f e l h
  glob := fun g o v h => by
    obtain ⟨h1, x, h2, h3⟩ := R.glob g o v h
    exact ⟨h1, x, by rw [World.cell_of_heap (w := w) (by rw [hw])]; exact h2, h3⟩
  asm := R.asm
  old := R.old
  sz := by rw [hw]; exact R.sz
  kind := fun f e l h hr => by rw [hw]; exact R.kind f e l h hr
theorem Ext.congr {Φ' : Emb} {H' : Heap} {w w₁ w₂ : World} (hw : w₂.heap = w₁.heap) (ho : Outer w₁ w₂) (x : Ext Φ H w Φ' H' w₁) : Ext Φ H w Φ' H' w₂ where
  same := ⟨x.same.toOuter.trans ho, by rw [hw]; exact x.grow, fun a ha => by rw [← x.same.froz a ha]; unfold World.frozen?; rw [hw]⟩
  le := x.le
  far := x.far
  frame := fun b hb ho => by rw [hw]; exact x.frame b hb ho
  grow := by rw [hw]; exact x.grow
  new := x.new
  next := x.next
  objs := x.objs

/-- The last cells of a row that is loaded. -/
theorem run_first (hlen : ∀ w' : World, w'.heap = w.heap → True) {b : Addr} {sz n c : Nat} {old : List Value} (h1 : old.length = n * sz) (h2 : ∀ j x, old[j]? = some x → w.cell? (b.add j) = some x) :
    ∀ w' : World, w'.heap = w.heap → (Builtin.firstCells sz n (.slice (some b) n c)).run P w' = .ok old.toArray w' := by
  intro w' hw'
  simp only [Builtin.firstCells]
  exact run_loadCells_n h1 fun j x hj => by rw [World.cell_of_heap (w := w) (by rw [hw'])]; exact h2 j x hj

section appendV
variable (hT : TTok P T) {st xt e : Nat} {i : TypeInfo} {xd : TypeDesc} (hst : T.und st = some (.slice e)) (hxt : T.und xt = some xd) (hxd : ∀ k, xd ≠ .int k) (hi : T e = some i) {ty : TypeId}
  {zv : Value} (hz1 : ∀ w' : World, (zeroValue e).run P w' = .ok zv w') (hz2 : zv.cells.size = i.size) (hb0 : 0 < i.bytes) (hs0 : 0 < i.size)
include hT hst hxt hxd hi hz1 hz2 hb0
theorem append_nil (R : Rel cx G ρ Φ H w) {n : Nat} {X : Value} {l : List V} {xs : List Value} (hn : (Builtin.lenOf X).run P w = .ok n w) (hfc : ∀ w' : World, w'.heap = w.heap → (Builtin.firstCells i.size n X).run P w' = .ok xs.toArray w')
    (hxs : VRs ρ Φ l xs) (hxl : xs.length = n * i.size) (hxo : ∀ x ∈ xs, x.oneCell' = true) (h0 : 0 < n) (hbytes : n * i.bytes ≤ 70368744177664) (hfree : ∀ e, Φ H.next e = none) :
    ∃ x w' Φ', (Builtin.append_ #[st, xt] ty #[.slice none 0 0, X]).run P w = .ok x w' ∧ VR ρ Φ' (.slice (some ⟨H.next, 0, 0⟩) n i.size) x ∧
      Rel cx G ρ Φ' (H.new (.cells (famOf l))) w' ∧ Ext Φ H w Φ' (H.new (.cells (famOf l))) w' := by
  obtain ⟨c', w', hcle, hrun, hheap, hos⟩ := run_append_big (w := w) (ty := ty) hT hst hxt hxd hi (base := none) (sLen := 0) (sCap := 0) (n := n) (X := X) (xs := xs) (old := []) (z := zv) hn hfc
    (fun w' _ => by simp [Builtin.firstCells]) hz1 hb0 (by omega) (by simpa using hbytes)
  generalize harr : ([].toArray ++ (xs.toArray ++ Builtin.zeroCells zv.cells (c' - (0 + n)))) = arr at hheap
  have hasz : arr.size = c' * i.size := by
    rw [← harr]
    simp only [Array.size_append, size_zeroCells', hz2, List.size_toArray, hxl]
    have : n * i.size + (c' - (0 + n)) * i.size = c' * i.size := by rw [← Nat.add_mul]; congr 1; omega
    simpa using this
  have hag : ∀ (j : Nat) y, xs[j]? = some y → arr[j]? = some y := by
    intro j y hj
    have hlt := (List.getElem?_eq_some_iff.1 hj).1
    rw [← harr]
    simp only [Array.getElem?_append]
    simp [hlt]
    rw [List.getElem?_eq_getElem hlt] at hj
    simpa using hj
  obtain ⟨k1, k2⟩ := R.newCells (arr := arr) e hfree hxs hxo hag
  refine ⟨_, w', _, hrun, ?_, k1.congr hheap, Ext.congr (w₁ := { w with heap := w.heap.push (.cells arr e) }) hheap ⟨hos.os, hos.out, hos.tape, hos.drawn⟩ k2⟩
  rw [Nat.zero_add]
  exact .slice (AR_new _) (Emb.set_same _ _ _ _) (by omega) (by simp [hasz])

theorem append_big (R : Rel cx G ρ Φ H w) {n len cap : Nat} {X : Value} {l : List V} {xs old : List Value} {d : DA} {b : Addr} {v : V} {H' : Heap}
    (hg : growV H i.size d len n l = some (v, H')) (hn : (Builtin.lenOf X).run P w = .ok n w) (hfc : ∀ w' : World, w'.heap = w.heap → (Builtin.firstCells i.size n X).run P w' = .ok xs.toArray w')
    (hxs : VRs ρ Φ l xs) (hxl : xs.length = n * i.size) (hxo : ∀ x ∈ xs, x.oneCell' = true) (hbig : cap < len + n) (hbytes : (len + n) * i.bytes ≤ 70368744177664)
    (hol : old.length = len * i.size) (hof : ∀ w' : World, w'.heap = w.heap → (Builtin.firstCells i.size len (.slice (some b) len cap)).run P w' = .ok old.toArray w')
    (hold : ∀ p u lo q, d.off + q = p → q < len * i.size → ∀ m : Fam, H.objs.get d.fam = some (.cells m) → m.cells.get p = some (u, lo) → lo ≤ m.ep → p < m.size → ∃ x, old[q]? = some x ∧ VR ρ Φ u x ∧ x.oneCell' = true) :
    ∃ x w' Φ', (Builtin.append_ #[st, xt] ty #[.slice (some b) len cap, X]).run P w = .ok x w' ∧ VR ρ Φ' v x ∧ Rel cx G ρ Φ' H' w' ∧ Ext Φ H w Φ' H' w' := by
  obtain ⟨m, hobj, hep, hsize, rfl, rfl⟩ := growV_some hg
  obtain ⟨c', w', hcle, hrun, hheap, hos⟩ := run_append_big (w := w) (ty := ty) hT hst hxt hxd hi (base := some b) (sLen := len) (sCap := cap) (n := n) (X := X) (xs := xs) (old := old) (z := zv) hn hfc hof hz1 hb0 hbig hbytes
  generalize harr : (old.toArray ++ (xs.toArray ++ Builtin.zeroCells zv.cells (c' - (len + n)))) = arr at hheap
  have hasz : arr.size = c' * i.size := by
    rw [← harr]
    simp only [Array.size_append, size_zeroCells', hz2, List.size_toArray, hxl, hol]
    rw [← Nat.add_assoc, ← Nat.add_mul, ← Nat.add_mul]; congr 1; omega
  have hao : ∀ (j : Nat) y, old[j]? = some y → arr[j]? = some y := by
    intro j y hj
    have hlt := (List.getElem?_eq_some_iff.1 hj).1
    rw [List.getElem?_eq_getElem hlt] at hj
    rw [← harr]
    simp only [Array.getElem?_append]
    simp [hlt]
    simpa using hj
  have han : ∀ (j : Nat) y, xs[j]? = some y → arr[len * i.size + j]? = some y := by
    intro j y hj
    have hlt := (List.getElem?_eq_some_iff.1 hj).1
    rw [List.getElem?_eq_getElem hlt] at hj
    rw [← harr]
    simp only [Array.getElem?_append]
    simp [hol, hlt]
    simpa using hj
  obtain ⟨_, h2, _, _⟩ := R.obj d.fam _ hobj
  have hsz1 : w.heap.size < w'.heap.size := by rw [hheap]; simp
  have hmulc : (len + n) * i.size ≤ c' * i.size := Nat.mul_le_mul_right _ hcle
  have hsame : ∀ k, k < w.heap.size → w'.heap[k]? = w.heap[k]? := by
    intro k hk
    rw [hheap]
    simp only [Array.getElem?_push]
    rw [if_neg (by omega)]
  obtain ⟨k1, k2⟩ := R.grow (w' := w') (len := len) (n := n) (sz := i.size) (L := ⟨w.heap.size, -(d.off : Int), arr.size, true⟩) (arr := arr) (t := e) hobj hep hsize (by rw [hxs.length]; exact hxl) hxs hxo (by omega)
    hos (fun b h1 h2 => by rw [hheap] at h2; simp at h2; show b = w.heap.size; omega) (fun k hk _ => hsame k hk) (.inl ⟨Nat.le_refl _, hsz1⟩) rfl (by simp [hheap]) rfl
    (fun p u lo hp hg q hq => by
      simp only at hq
      obtain ⟨x, h3, h4, h5⟩ := hold p u lo q (by omega) (by omega) m hobj hg (h2 p u lo (by omega) hg) (by omega)
      exact ⟨x, hao q x h3, h4, h5⟩)
    (fun j x hj q hq => by
      simp only at hq
      obtain rfl : q = len * i.size + j := by omega
      exact han j x hj)
    (fun p q hp hq => by simp only at hq ⊢; omega)
    (fun e' l1 hl1 _ arr1 t1 h3 => ⟨arr1, by rw [hsame _ (R.dom _ _ _ hl1).1]; exact h3, rfl, fun _ _ _ _ => rfl⟩)
  refine ⟨_, w', _, hrun, ?_, k1, k2⟩
  exact .slice ⟨_, Emb.set_same _ _ _ _, rfl, by simp; omega, rfl, rfl⟩ (Emb.set_same _ _ _ _) hcle (by simp [hasz])

omit hz1 hz2 hb0 in
theorem append_fit (R : Rel cx G ρ Φ H w) {n len cap : Nat} {X : Value} {l : List V} {xs : List Value} {d : DA} {b : Addr} {v : V} {H' : Heap} {L : Loc}
    (hg : growV H i.size d len n l = some (v, H')) (hn : (Builtin.lenOf X).run P w = .ok n w) (hfc : ∀ w' : World, w'.heap = w.heap → (Builtin.firstCells i.size n X).run P w' = .ok xs.toArray w')
    (hxs : VRs ρ Φ l xs) (hxl : xs.length = n * i.size) (hxo : ∀ x ∈ xs, x.oneCell' = true) (hfit : len + n ≤ cap) (hab : AR Φ d b) (hL : Φ d.fam d.ep = some L) (hroom : b.off + cap * i.size ≤ L.size) :
    ∃ x w' Φ', (Builtin.append_ #[st, xt] ty #[.slice (some b) len cap, X]).run P w = .ok x w' ∧ VR ρ Φ' v x ∧ Rel cx G ρ Φ' H' w' ∧ Ext Φ H w Φ' H' w' := by
  obtain ⟨m, hobj, hep, hsize, rfl, rfl⟩ := growV_some hg
  obtain ⟨g1, h2, h2', h3⟩ := R.obj d.fam _ hobj
  obtain ⟨L', hL', hrow, arr, t, h4, h5, h6⟩ := h3 d.ep (by omega)
  rw [hL] at hL'
  obtain rfl : L = L' := by simpa using hL'
  obtain ⟨L2, hL2, hb1, hb2, hb3, _⟩ := hab
  rw [hL] at hL2
  obtain rfl : L = L2 := by simpa using hL2
  obtain ⟨bb, bo, bs⟩ := b
  simp only at hb1 hb2 hb3 hroom
  subst hb1; subst hb3
  have hmul : (len + n) * i.size = len * i.size + n * i.size := Nat.add_mul _ _ _
  have hmulc : (len + n) * i.size ≤ cap * i.size := Nat.mul_le_mul_right _ hfit
  have hfits : bo + len * i.size + xs.length ≤ arr.size := by omega
  have hadd : (⟨L.blk, bo, none⟩ : Addr).add (len * i.size) = ⟨L.blk, bo + len * i.size, none⟩ := by
    unfold Addr.add; split
    · rename_i hz; rw [hz]; rfl
    · rfl
  have hst' := run_storeCells_at P L.blk (bo + len * i.size) t xs 0 arr w h4 (by simpa using hfits) hxo
  simp only [Nat.add_zero] at hst'
  generalize hnew : (arr.toList.take (bo + len * i.size) ++ xs ++ arr.toList.drop (bo + len * i.size + xs.length)).toArray = arr' at hst'
  have hget : ∀ j, arr'[j]? = if bo + len * i.size ≤ j ∧ j < bo + len * i.size + xs.length then xs[j - (bo + len * i.size)]? else arr[j]? := by
    intro j
    rw [← hnew]
    simp only [List.getElem?_toArray]
    rw [list_splice _ _ _ _ (by simpa using hfits)]
    simp
  have hsz : arr'.size = arr.size := by rw [← hnew]; simp; omega
  have hheap := setRow_heap w L.blk arr arr' t _ h4
  have hrun := run_append_fit (w := w) (ty := ty) hT hst hxt hxd hi (base := some ⟨L.blk, bo, none⟩) (sLen := len) (sCap := cap) hn (hfc w rfl) hfit
  simp only [hadd, hst', Result.andThen_ok] at hrun
  obtain ⟨k1, k2⟩ := R.grow (w' := w.setRow L.blk arr') (len := len) (n := n) (sz := i.size) (L := L) (arr := arr') (t := t) hobj hep hsize (by rw [hxs.length]; exact hxl) hxs hxo (by simp [World.setRow]) ⟨rfl, rfl, rfl, Nat.le_refl _⟩ (fun b h1 h2 => by simp [World.setRow] at h2; omega)
    (fun k _ hk => setRow_other w L.blk k arr' fun hkk => hk _ _ hL hkk.symm) (.inr hL) hrow hheap (by omega)
    (fun p u lo hp hg q hq => by
      obtain ⟨x, c1, c2, c3⟩ := h6 p u lo (by omega) hg (by have := h2 p u lo (by omega) hg; omega) q hq
      exact ⟨x, by rw [hget, if_neg (by omega)]; exact c1, c2, c3⟩)
    (fun j x hj q hq => by
      have hlt := (List.getElem?_eq_some_iff.1 hj).1
      rw [hget, if_pos (by omega), show q - (bo + len * i.size) = j by omega]; exact hj)
    (fun p q hp hq => by omega)
    (fun e' l1 hl1 _ arr1 t1 g4 => by
      by_cases hb : l1.blk = L.blk
      · obtain rfl := (R.inj _ _ _ _ _ _ hl1 hL hb).2
        rw [h4] at g4
        obtain ⟨rfl, rfl⟩ : arr = arr1 ∧ t = t1 := by simpa using g4
        exact ⟨arr', hheap, by omega, fun p q hp hq => by rw [hget, if_neg (by omega)]⟩
      · exact ⟨arr1, by rw [setRow_other w L.blk _ arr' hb]; exact g4, rfl, fun _ _ _ _ => rfl⟩)
  exact ⟨_, _, _, hrun, .slice ⟨L, Emb.set_same _ _ _ _, rfl, hb2, rfl, hrow⟩ (Emb.set_same _ _ _ _) hfit hroom, k1, k2⟩
end appendV

theorem append_ok (hT : TTok P T) {c : Call} {st xt e : Nat} {i : TypeInfo} {z : V} {xd : TypeDesc} {s x : Operand} {s' x' : Opd} (hc : c.callee = .builtin .append) (ha : c.args.toList = [s, x]) (hat : c.argTypes.toList = [st, xt])
    (hst : T.und st = some (.slice e)) (hxt : T.und xt = some xd) (hxd : ∀ k, xd ≠ .int k) (hi : T e = some i) (hz : T.zero e = some z) (hzl : z.cells.length = i.size) (hb0 : 0 < i.bytes) (hs0 : 0 < i.size)
    (hs : opd s = some s') (hx : opd x = some x') : EffOk P cx G ρ (.call c) (oAppend i.size i.bytes s' x') := by
  intro oper ho Φ H w env a v H' R hE hF hv
  unfold oAppend at hv
  split at hv
  · cases hv
  · rename_i u hu
    split at hv
    · cases hv
    · rename_i u' hu'
      split at hv
      · cases hv
      · rename_i n l hsrc
        have r1 := eval_ok hE hs hu
        have r2 := eval_ok hE hx hu'
        obtain ⟨hn, xs, hxs, hxl, hxo, hfc⟩ := src_ok (P := P) R r2 hsrc
        have hzw : ∃ zv, (∀ w' : World, (zeroValue e).run P w' = .ok zv w') ∧ zv.cells.size = i.size := by
          obtain ⟨zv, h1, h2⟩ := zero_ok hT hz w
          refine ⟨zv, fun w' => ?_, by rw [← (h2 ρ Φ).cells.toArray]; exact hzl⟩
          obtain ⟨zv', h1', _⟩ := zero_ok hT hz w'
          have : zv' = zv := by
            unfold TT.zero at hz; rw [hi] at hz; simp only at hz
            cases hzz : i.zero with
            | none => rw [hzz] at hz; cases hz
            | some q => simp [zeroValue, run_info hT w hi, run_info hT w' hi, hzz] at h1 h1'; rw [← h1, ← h1']
          rw [← this]; exact h1'
        obtain ⟨zv, hz1, hz2⟩ := hzw
        have hexec : (∃ y w' Φ', (Builtin.append_ #[st, xt] oper.type #[a.eval s, a.eval x]).run P w = .ok y w' ∧ VR ρ Φ' v y ∧ Rel cx G ρ Φ' H' w' ∧ Ext Φ H w Φ' H' w') →
            ∃ nx w' Φ' y, (execOp a.eval oper).run P w = .ok nx w' ∧ (nx = .value y ∨ (nx = .skip ∧ y = undef)) ∧ VR ρ Φ' v y ∧ Rel cx G ρ Φ' H' w' ∧ Ext Φ H w Φ' H' w' := by
          rintro ⟨y, w', Φ', h1, h2, h3, h4⟩
          refine ⟨.value y, w', Φ', y, ?_, .inl rfl, h2, h3, h4⟩
          simp [execOp, ho, resolve, hc, arr2 ha, arr2 hat, invoke, builtin, h1]
        refine hexec ?_
        clear hexec
        generalize a.eval s = S at *
        generalize a.eval x = X at *
        unfold appendV at hv
        split at hv
        · simp only [nbeq, nble, bif_ite] at hv
          cases r1
          split at hv
          · rename_i h0
            subst h0
            simp at hv; obtain ⟨rfl, rfl⟩ := hv
            refine ⟨.slice none 0 0, w, Φ, ?_, .nilslice 0, R, Ext.refl _ _ _⟩
            rw [run_append_fit hT hst hxt hxd hi (hn w) (hfc w rfl) (by omega)]
          · split at hv
            · simp at hv; obtain ⟨rfl, rfl⟩ := hv
              exact append_nil hT hst hxt hxd hi hz1 hz2 hb0 R (hn w) hfc hxs hxl hxo (by omega) (by assumption) (fun e => hF _ _ (Nat.le_refl _) (by simp [Heap.new]))
            · cases hv
        · rename_i d len sz'
          simp only [nbeq, nble, ← Bool.decide_and, bif_ite] at hv
          split at hv
          · rename_i h0
            subst h0
            simp at hv; obtain ⟨rfl, rfl⟩ := hv
            have hxs0 : xs = [] := by simpa using hxl
            subst hxs0
            cases r1 with
            | @slice _ b _ cap _ L hab hL hlen hroom =>
              refine ⟨.slice (some b) (len + 0) cap, w, Φ, ?_, .slice hab hL hlen hroom, R, Ext.refl _ _ _⟩
              rw [run_append_fit hT hst hxt hxd hi (hn w) (hfc w rfl) (by omega)]
              simp [storeCells]
            | slice0 _ b _ =>
              refine ⟨.slice (some b) (0 + 0) 0, w, Φ, ?_, .slice0 _ _ _, R, Ext.refl _ _ _⟩
              rw [run_append_fit hT hst hxt hxd hi (hn w) (hfc w rfl) (by omega)]
              simp [storeCells]
          · rename_i hn0
            split at hv
            · rename_i hcond
              obtain ⟨rfl, hbytes⟩ := hcond
              cases r1 with
              | @slice _ b _ cap _ L hab hL hlen hroom =>
                by_cases hfit : len + n ≤ cap
                · exact append_fit hT hst hxt hxd hi R hv (hn w) hfc hxs hxl hxo hfit hab hL hroom
                · obtain ⟨m, hobj, hep, hsize, _, _⟩ := growV_some hv
                  obtain ⟨_, _, _, h3⟩ := R.obj d.fam _ hobj
                  obtain ⟨L', hL', hrow, arr, t, h4, h5, h6⟩ := h3 d.ep (by omega)
                  rw [hL] at hL'
                  obtain rfl : L = L' := by simpa using hL'
                  obtain ⟨L2, hL2, hb1, hb2, hb3, _⟩ := hab
                  rw [hL] at hL2
                  obtain rfl : L = L2 := by simpa using hL2
                  obtain ⟨bb, bo, bs⟩ := b
                  simp only at hb1 hb2 hb3 hroom
                  subst hb1; subst hb3
                  have hmulc : len * i.size ≤ cap * i.size := Nat.mul_le_mul_right _ hlen
                  have hol : ((arr.toList.drop bo).take (len * i.size)).length = len * i.size := by simp; omega
                  have hcell : ∀ (j : Nat) y, ((arr.toList.drop bo).take (len * i.size))[j]? = some y → arr[bo + j]? = some y := by
                    intro j y hj
                    have hlt := (List.getElem?_eq_some_iff.1 hj).1
                    rw [hol] at hlt
                    simpa [List.getElem?_take, hlt, List.getElem?_drop] using hj
                  refine append_big hT hst hxt hxd hi hz1 hz2 hb0 R hv (hn w) hfc hxs hxl hxo (by omega) hbytes hol ?_ ?_
                  · refine run_first (fun _ _ => trivial) hol fun j y hj => ?_
                    have := hcell j y hj
                    unfold Addr.add
                    split
                    · rename_i hj0; subst hj0; simpa [World.cell?, h4] using this
                    · simpa [World.cell?, h4] using this
                  · intro p u0 lo q hp hq m' hm' hg hlo hps
                    rw [hobj] at hm'
                    obtain rfl : m = m' := by simpa using hm'
                    obtain ⟨y, c1, c2, c3⟩ := h6 p u0 lo hps hg (by omega) (bo + q) (by push_cast; omega)
                    refine ⟨y, ?_, c2, c3⟩
                    simp only [List.getElem?_take, hq, if_true, List.getElem?_drop]
                    rw [Array.getElem?_toList]; exact c1
              | slice0 _ b _ =>
                refine append_big hT hst hxt hxd hi hz1 hz2 hb0 R hv (hn w) hfc hxs hxl hxo (by omega) hbytes (old := []) (by simp) (fun w' _ => by simp [Builtin.firstCells, loadCells, loadCellsFrom]) ?_
                intro p u0 lo q hp hq; omega
            · cases hv
        · cases hv

theorem copy_ok (hT : TTok P T) {c : Call} {dt st e n : Nat} {d s : Operand} {d' s' : Opd} (hc : c.callee = .builtin .copy) (ha : c.args.toList = [d, s]) (hat : c.argTypes.toList = [dt, st])
    (hdt : T.und dt = some (.slice e)) (hn : T.size e = some n) (hs0 : 0 < n) (hd : opd d = some d') (hs : opd s = some s') : EffOk P cx G ρ (.call c) (oCopy n d' s') := by
  intro oper ho Φ H w env a v H' R hE hF hv
  unfold oCopy at hv
  split at hv
  · cases hv
  · rename_i u hu
    split at hv
    · cases hv
    · rename_i u' hu'
      have r1 := eval_ok hE hd hu
      have r2 := eval_ok hE hs hu'
      have hexec : (∃ x w' Φ', (Builtin.copy_ #[dt, st] oper.type #[a.eval d, a.eval s]).run P w = .ok x w' ∧ VR ρ Φ' v x ∧ Rel cx G ρ Φ' H' w' ∧ Ext Φ H w Φ' H' w') →
          ∃ nx w' Φ' x, (execOp a.eval oper).run P w = .ok nx w' ∧ (nx = .value x ∨ (nx = .skip ∧ x = undef)) ∧ VR ρ Φ' v x ∧ Rel cx G ρ Φ' H' w' ∧ Ext Φ H w Φ' H' w' := by
        rintro ⟨y, w', Φ', h1, h2, h3, h4⟩
        refine ⟨.value y, w', Φ', y, ?_, .inl rfl, h2, h3, h4⟩
        simp [execOp, ho, resolve, hc, arr2 ha, arr2 hat, invoke, builtin, h1]
      refine hexec ?_
      clear hexec
      generalize a.eval d = S at *
      generalize a.eval s = X at *
      unfold copyV at hv
      split at hv
      · rename_i da dl zz
        split at hv
        · rename_i sa sl zz'
          simp only [nbeq, bif_ite] at hv
          split at hv
          · rename_i h0
            simp at hv; obtain ⟨rfl, rfl⟩ := hv
            have hlen : ∃ sl' sc sb, X = .slice sb sl' sc ∧ sl' = sl := by cases r2 <;> exact ⟨_, _, _, rfl, rfl⟩
            have hlen2 : ∃ dl' dc db, S = .slice db dl' dc ∧ dl' = dl := by cases r1 <;> exact ⟨_, _, _, rfl, rfl⟩
            obtain ⟨_, sc, sb, rfl, rfl⟩ := hlen
            obtain ⟨_, dc, db, rfl, rfl⟩ := hlen2
            refine ⟨.int .i64 0, w, Φ, ?_, VR.int .i64 (.lit 0), R, Ext.refl _ _ _⟩
            cases sb <;> cases db <;> simp [Builtin.copy_, run_und hT w hdt, Builtin.lenOf, Builtin.firstCells, run_size hT w hn, h0, loadCells, loadCellsFrom, storeCells, goInt]
          · rename_i h0
            split at hv
            · cases hv
            · rename_i ad
              split at hv
              · cases hv
              · rename_i sd
                split at hv
                · cases hv
                · rename_i l hl
                  split at hv
                  · cases hv
                  · rename_i H2 hw
                    simp at hv; obtain ⟨rfl, rfl⟩ := hv
                    cases r1 with
                    | @slice _ db _ dc _ L hab hL hlen hroom =>
                      cases r2 with
                      | @slice _ sb _ sc _ L' hab' hL' hlen' hroom' =>
                        obtain ⟨xs, h1, h2, h3, h4⟩ := R.cellsAt hl hab'
                        obtain ⟨w', k1, k2, k3⟩ := R.write (P := P) hw hab h2 h3
                        refine ⟨.int .i64 (Nat.min sl dl), w', Φ, ?_, VR.int .i64 (.lit (.ofNat (Nat.min sl dl))), k2, k3⟩
                        have := run_loadCells_n (P := P) h1 h4
                        simp [Builtin.copy_, run_und hT w hdt, Builtin.lenOf, Builtin.firstCells, run_size hT w hn, this, k1, goInt]
                      | slice0 => simp at h0
                    | slice0 => simp at h0
        · cases hv
      · cases hv
end Go.Sk

/-
  SK, PART K. What every operation owes, in one word; a region in program order.
-/
namespace Go.Sk
variable {D : List Deferred} {P : Program} {cx : Cx} {G : Nat} {ρ : Nat → Int} {T : TT} {Φ : Emb} {H : Heap} {w : World}

def CallOk (P : Program) (cx : Cx) (G : Nat) (ρ : Nat → Int) (o : Op) (r : Env → Option (Nat × List V)) : Prop :=
  ∀ (oper : Oper), oper.op = o → ∀ Φ H w env (a : Act) f args, Rel cx G ρ Φ H w → EnvR ρ Φ env a.tmps → r env = some (f, args) →
    ∃ xs : Array Value, VRs ρ Φ args xs.toList ∧ (execOp a.eval oper).run P w = (callFunc f xs).run P w

/-- What one call owes, its families not yet taken. -/
def RecAt (P : Program) (cx : Cx) (G : Nat) (ρ : Nat → Int) (f : Nat) (args : List V) (h : Heap) (v : V) (h' : Heap) : Prop :=
  h.next ≤ h'.next ∧ (∀ xs w, (callFunc f xs).run P w = .ok (.enter f xs) w) ∧
    ∀ Φ w (xs : Array Value), Rel cx G ρ Φ h w → VRs ρ Φ args xs.toList → Free Φ h.next h'.next →
      Calls P f xs w (fun e w' => ∃ x Φ', e = .returned x ∧ VR ρ Φ' v x ∧ Rel cx G ρ Φ' h' w' ∧ Ext Φ h w Φ' h' w')
def RecOk (P : Program) (cx : Cx) (G : Nat) (ρ : Nat → Int) (rec : Rec) : Prop :=
  ∀ f args h v h', rec f args h = some (v, h') → RecAt P cx G ρ f args h v h'

def Rising (r : Env → Heap → Option (V × Heap)) : Prop := ∀ env h v h', r env h = some (v, h') → h.next ≤ h'.next

def SkOk (P : Program) (cx : Cx) (G : Nat) (ρ : Nat → Int) (o : Op) : SK → Prop
  | .pure r => PureOk P cx G ρ o r
  | .read r => ReadOk P cx G ρ o r
  | .alloc r => AllocOk P cx G ρ o r
  | .eff r => EffOk P cx G ρ o r ∧ Rising r
  | .fresh x r => ReadOk P cx G ρ o r ∧ ∀ env H H' a, eval env x = some (.ptr (some a)) → H.objs.get a.fam = H'.objs.get a.fam → r env H = r env H'
  | .call r => CallOk P cx G ρ o r

theorem EnvR.put {env : Env} {tmps : Array Value} (hE : EnvR ρ Φ env tmps) {d : Nat} {v : V} {x : Value} (hd : d < tmps.size) (r : VR ρ Φ v x) :
    EnvR ρ Φ (env.put d (some v)) (tmps.setIfInBounds d x) := by
  intro t u h
  rw [Tr.get_put] at h
  by_cases ht : t = d
  · subst ht
    rw [if_pos rfl] at h
    obtain rfl : v = u := by simpa using h
    exact ⟨x, by simp [hd], r⟩
  · rw [if_neg ht] at h
    obtain ⟨y, h1, h2⟩ := hE t u h
    exact ⟨y, by rw [Array.getElem?_setIfInBounds_ne (Ne.symm ht)]; exact h1, h2⟩

theorem EnvR.putDst {env : Env} {a : Act} (hE : EnvR ρ Φ env a.tmps) {d : Option Nat} {v : V} {x : Value} (hd : ∀ t, d = some t → t < a.tmps.size) (r : VR ρ Φ v x) :
    EnvR ρ Φ (putDst env d v) (a.put d x).tmps := by
  cases d with
  | none => exact hE
  | some d => exact hE.put (hd d rfl) r

theorem put_size (a : Act) (d : Option Nat) (x : Value) : (a.put d x).tmps.size = a.tmps.size := by
  cases d <;> simp [Act.put]
theorem put_defers' (a : Act) (d : Option Nat) (x : Value) : (a.put d x).defers = a.defers := by
  cases d <;> rfl

theorem runOp_rising {rec : Rec} (hrec : RecOk P cx G ρ rec) {o : Op} {sk : SK} (hk : SkOk P cx G ρ o sk) {env : Env} {h hr h' : Heap} {v : V}
    (hv : runOp rec env h hr sk = some (v, h')) : h.next ≤ h'.next := by
  cases sk with
  | pure r => simp only [runOp] at hv; split at hv <;> simp at hv; rw [hv.2]; exact Nat.le_refl _
  | read r => simp only [runOp] at hv; split at hv <;> simp at hv; rw [hv.2]; exact Nat.le_refl _
  | alloc r => simp only [runOp] at hv; split at hv <;> simp at hv; rw [← hv.2]; simp [Heap.new]
  | eff r => exact hk.2 env h v h' hv
  | fresh x r => simp only [runOp] at hv; split at hv <;> simp at hv; rw [hv.2]; exact Nat.le_refl _
  | call r =>
    simp only [runOp] at hv
    split at hv
    · exact (hrec _ _ _ _ _ hv).1
    · cases hv

/-- One operation that is wanted; what reads see is what there is. -/
theorem runOp_ok {rec : Rec} (hrec : RecOk P cx G ρ rec) {oper : Oper} {sk : SK} (hk : SkOk P cx G ρ oper.op sk) {env : Env} {H' : Heap} {v : V} {a : Act}
    (R : Rel cx G ρ Φ H w) (hE : EnvR ρ Φ env a.tmps) (hF : Free Φ H.next H'.next) (hv : runOp rec env H H sk = some (v, H'))
    {K : Act → World → Prop} {Q : Exit → Act → World → Prop}
    (hK : ∀ x w' Φ', VR ρ Φ' v x → Rel cx G ρ Φ' H' w' → Ext Φ H w Φ' H' w' → K (a.put oper.dst x) w') : oper.wp P a w K Q := by
  unfold Oper.wp
  cases sk with
  | pure r =>
    simp only [runOp] at hv
    split at hv
    · rename_i u hu
      simp at hv; obtain ⟨rfl, rfl⟩ := hv
      obtain ⟨x, h1, h2⟩ := hk oper rfl Φ H w env a _ R hE hu
      rw [h1]; exact hK x w Φ h2 R (Ext.refl _ _ _)
    · cases hv
  | read r =>
    simp only [runOp] at hv
    split at hv
    · rename_i u hu
      simp at hv; obtain ⟨rfl, rfl⟩ := hv
      obtain ⟨x, h1, h2⟩ := hk oper rfl Φ H w env a _ R hE hu
      rw [h1]; exact hK x w Φ h2 R (Ext.refl _ _ _)
    · cases hv
  | fresh y r =>
    simp only [runOp] at hv
    split at hv
    · rename_i u hu
      simp at hv; obtain ⟨rfl, rfl⟩ := hv
      obtain ⟨x, h1, h2⟩ := hk.1 oper rfl Φ H w env a _ R hE hu
      rw [h1]; exact hK x w Φ h2 R (Ext.refl _ _ _)
    · cases hv
  | alloc r =>
    simp only [runOp] at hv
    split at hv
    · rename_i u ob hu
      simp at hv; obtain ⟨rfl, rfl⟩ := hv
      have hfree : ∀ e, Φ H.next e = none := fun e => hF _ e (Nat.le_refl _) (by simp [Heap.new])
      obtain ⟨x, ro, l, h1, h2, h3, h4⟩ := hk oper rfl Φ H w env a _ ob H.next R hE hfree hu
      obtain ⟨k1, k2⟩ := R.new hfree h2 h4
      rw [h1]; exact hK x _ _ h3 k1 k2
    · cases hv
  | eff r =>
    obtain ⟨nx, w', Φ', x, h1, h2, h3, h4, h5⟩ := hk.1 oper rfl Φ H w env a v H' R hE hF hv
    rw [h1]
    rcases h2 with rfl | ⟨rfl, rfl⟩
    · exact hK x w' Φ' h3 h4 h5
    · exact hK _ w' Φ' h3 h4 h5
  | call r =>
    simp only [runOp] at hv
    split at hv
    · rename_i f args hu
      obtain ⟨xs, h1, h2⟩ := hk oper rfl Φ H w env a f args R hE hu
      obtain ⟨_, h3, h4⟩ := hrec _ _ _ _ _ hv
      rw [h2, h3]
      simp only [Oper.upon]
      refine (h4 Φ w xs R h1 hF).mono ?_
      rintro e w' ⟨x, Φ', rfl, k1, k2, k3⟩
      exact hK x w' Φ' k1 k2 k3
    · cases hv

/-- An operation of a region, and what it was made to. -/
structure OperR (P : Program) (cx : Cx) (G : Nat) (ρ : Nat → Int) (ops : Array Oper) (N : Nat) (o : Oper) (d : SOper) : Prop where
  dst : d.dst = o.dst
  ok : SkOk P cx G ρ o.op d.op
  guard : (o.guard = none ∧ d.guard = none) ∨ ∃ j b g t, o.guard = some (j, b) ∧ ops[j]? = some g ∧ g.dst = some t ∧ d.guard = some (t, b)
  lt : ∀ t, d.dst = some t → t < N

theorem wanted_ok {ops : Array Oper} {N : Nat} {o : Oper} {d : SOper} (hd : OperR P cx G ρ ops N o d) {env : Env} {a : Act} {b : Bool}
    (hE : ∀ t c, d.guard = some (t, c) → ∀ v, env.get t = some v → ∃ x, a.tmps[t]? = some x ∧ VR ρ Φ v x) (h : wanted env d.guard = some b) :
    Region.wanted o (yielded ops a.tmps) = b := by
  rcases hd.guard with ⟨h1, h2⟩ | ⟨j, c, g, t, h1, h2, h3, h4⟩
  · rw [h2] at h; simp [wanted] at h; simp [Region.wanted, h1, h]
  · rw [h4] at h
    simp only [wanted] at h
    simp only [Region.wanted, h1, yielded, h2, Option.bind_some, h3]
    split at h
    · rename_i c' hc
      obtain ⟨x, hx, r⟩ := hE t c h4 _ hc
      cases r
      simp at h
      rw [hx, ← h]
      cases c <;> cases c' <;> rfl
    · rename_i l hc
      obtain ⟨x, hx, r⟩ := hE t c h4 _ hc
      cases r
      simp at h
      rw [hx, h]
      rfl
    · cases h

/-- Where a body stands: its temporaries, its heap. -/
def AtR (D : List Deferred) (cx : Cx) (G : Nat) (ρ : Nat → Int) (N : Nat) (Φ : Emb) (env : Env) (H : Heap) (a : Act) (w : World) : Prop :=
  Rel cx G ρ Φ H w ∧ EnvR ρ Φ env a.tmps ∧ N ≤ a.tmps.size ∧ a.defers = D

theorem AtR.put {N : Nat} {Φ' : Emb} {env : Env} {H' : Heap} {a : Act} {w' : World} (h : AtR D cx G ρ N Φ env H a w) (R : Rel cx G ρ Φ' H' w') (hle : Φ.le Φ') {d : Option Nat} {v : V} {x : Value}
    (hd : ∀ t, d = some t → t < N) (r : VR ρ Φ' v x) : AtR D cx G ρ N Φ' (putDst env d v) H' (a.put d x) w' := by
  obtain ⟨_, h2, h3, h4⟩ := h
  refine ⟨R, (h2.le hle).putDst (fun t ht => Nat.lt_of_lt_of_le (hd t ht) h3) r, by rw [put_size]; exact h3, by rw [put_defers']; exact h4⟩

theorem runOps_rising {rec : Rec} (hrec : RecOk P cx G ρ rec) {ops : Array Oper} {N : Nat} : ∀ (l : List SOper), (∀ d ∈ l, ∃ o, OperR P cx G ρ ops N o d) → ∀ {env env' : Env} {h h' : Heap},
    runOps rec l env h = some (env', h') → h.next ≤ h'.next := by
  intro l
  induction l with
  | nil => intro _ env env' h h' hv; simp [runOps] at hv; rw [hv.2]; exact Nat.le_refl _
  | cons d l ih =>
    intro hl env env' h h' hv
    simp only [runOps] at hv
    split at hv
    · cases hv
    · exact ih (fun d hd => hl d (by simp [hd])) hv
    · split at hv
      · cases hv
      · rename_i v h1 hr
        obtain ⟨o, ho⟩ := hl d (by simp)
        exact Nat.le_trans (runOp_rising hrec ho.ok hr) (ih (fun d hd => hl d (by simp [hd])) hv)

/-- A region in program order. -/
theorem runOps_ok {rec : Rec} (hrec : RecOk P cx G ρ rec) {ops : Array Oper} {N : Nat} {Q : Exit → Act → World → Prop} : ∀ (l : List SOper) (i : Nat),
    (∀ (j : Nat) d, l[j]? = some d → ∃ o, ops[i + j]? = some o ∧ OperR P cx G ρ ops N o d) → ∀ {Φ : Emb} {env env' : Env} {H H' : Heap} {a : Act} {w : World},
    AtR D cx G ρ N Φ env H a w → Free Φ H.next H'.next → runOps rec l env H = some (env', H') →
    (∀ Φ' a' w', AtR D cx G ρ N Φ' env' H' a' w' → Ext Φ H w Φ' H' w' → Q .normal a' w') → wpOps P ops Q (List.range' i l.length) a w := by
  intro l
  induction l with
  | nil =>
    intro i _ Φ env env' H H' a w hA _ hv hQ
    simp [runOps] at hv
    obtain ⟨rfl, rfl⟩ := hv
    exact hQ Φ a w hA (Ext.refl _ _ _)
  | cons d l ih =>
    intro i hl Φ env env' H H' a w hA hF hv hQ
    obtain ⟨o, ho, hd⟩ := hl 0 d rfl
    simp only [Nat.add_zero] at ho
    have hl' : ∀ (j : Nat) d, l[j]? = some d → ∃ o, ops[i + 1 + j]? = some o ∧ OperR P cx G ρ ops N o d := fun j d hj => by
      have := hl (j + 1) d (by simpa using hj)
      rwa [show i + (j + 1) = i + 1 + j by omega] at this
    have hmem : ∀ d ∈ l, ∃ o, OperR P cx G ρ ops N o d := fun d hd => by
      obtain ⟨j, hj⟩ := List.mem_iff_getElem?.1 hd
      obtain ⟨o, _, h⟩ := hl' j d hj
      exact ⟨o, h⟩
    rw [List.length_cons, List.range'_succ, wpOps_cons]
    unfold wpOp
    simp only [ho]
    simp only [runOps] at hv
    have hEg : ∀ t c, d.guard = some (t, c) → ∀ v, env.get t = some v → ∃ x, a.tmps[t]? = some x ∧ VR ρ Φ v x := fun t c _ v hv => hA.2.1 t v hv
    split at hv
    · cases hv
    · rename_i hw
      rw [wanted_ok hd hEg hw]
      simp only [Bool.false_eq_true, if_false]
      rw [hd.dst] at hv
      exact ih (i + 1) hl' (hA.put hA.1 (fun _ _ _ h => h) (fun t ht => hd.lt t (hd.dst.trans ht)) undef_ok) hF hv hQ
    · rename_i hw
      rw [wanted_ok hd hEg hw]
      simp only [if_true]
      split at hv
      · cases hv
      · rename_i v H1 hr
        have hrise := runOps_rising hrec l hmem hv
        refine .inl (runOp_ok hrec hd.ok hA.1 hA.2.1 (fun f e h1 h2 => hF f e h1 (Nat.lt_of_lt_of_le h2 hrise)) hr ?_)
        intro x w' Φ' k1 k2 k3
        have hsp := Free.split k3 hrise hF
        rw [hd.dst] at hv
        refine ih (i + 1) hl' (hA.put k2 k3.le (fun t ht => hd.lt t (hd.dst.trans ht)) k1) hsp.2 hv ?_
        intro Φ2 a2 w2 q1 q2
        exact hQ Φ2 a2 w2 q1 (k3.trans hsp.1 q2)
end Go.Sk
