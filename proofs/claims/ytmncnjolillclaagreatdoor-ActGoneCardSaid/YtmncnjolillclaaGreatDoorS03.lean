/-
  SK, PART E. Operations that read temporaries alone: what the abstract machine makes of them is what the model makes of them.
-/
import Derived.Test.YtmncnjolillclaaGreatDoorS02
import Derived.Laws.Strings
import Derived.Laws.Slices
namespace Go.Sk

/-- The table of types tells what the program's does. -/
def TTok (P : Program) (T : TT) : Prop := ∀ t i, T t = some i → P.info? t = some i

section types
variable {P : Program} {T : TT} (hT : TTok P T) (w : World)
include hT
theorem und_ok {t : Nat} {d : TypeDesc} (h : T.und t = some d) : P.underlying t = some d := by
  unfold TT.und at h
  unfold Program.underlying
  cases hi : T t with
  | none => rw [hi] at h; cases h
  | some i =>
    rw [hi] at h
    rw [hT t i hi]
    obtain ⟨d0, _⟩ := i
    cases d0 with
    | named s u =>
      simp only at h ⊢
      cases hu : T u with
      | none => rw [hu] at h; cases h
      | some j => rw [hu] at h; rw [hT u j hu]; simpa using h
    | _ => simpa using h
theorem run_und {t : Nat} {d : TypeDesc} (h : T.und t = some d) : (underlying t).run P w = .ok d w := by
  simp [underlying, und_ok hT h]
theorem run_info {t : Nat} {i : TypeInfo} (h : T t = some i) : (typeInfo t).run P w = .ok i w := by
  simp [typeInfo, hT t i h]
theorem run_size {t n : Nat} (h : T.size t = some n) : (sizeOf t).run P w = .ok n w := by
  unfold TT.size at h
  cases hi : T t with
  | none => rw [hi] at h; cases h
  | some i => rw [hi] at h; simp at h; simp [sizeOf, run_info hT w hi, h]
theorem run_isAgg {t : Nat} {b : Bool} (h : T.agg t = some b) : (isAgg t).run P w = .ok b w := by
  unfold TT.agg at h
  cases hu : T.und t with
  | none => rw [hu] at h; cases h
  | some d =>
    rw [hu] at h
    simp only [isAgg, Sem.run_bind, run_und hT w hu, Result.andThen_ok]
    cases d <;> simp at h <;> subst h <;> rfl
end types

mutual
theorem zeroV_ok {ρ : Nat → Int} {Φ : Emb} : ∀ {n : Nat} {v : Value} {x : V}, zeroV n v = some x → VR ρ Φ x v := by
  intro n v x h
  cases n with
  | zero => simp [zeroV] at h
  | succ n =>
    cases v with
    | bool b => simp [zeroV] at h; subst h; exact .bool b
    | int k m => simp [zeroV] at h; subst h; exact .int k (.lit m)
    | string s => simp [zeroV] at h; subst h; exact .str s
    | pointer a => cases a with
      | none => simp [zeroV] at h; subst h; exact .nilptr
      | some a => simp [zeroV] at h
    | slice a m c => cases a with
      | none =>
        cases m with
        | zero => cases c with
          | zero => simp [zeroV] at h; subst h; exact .nilslice 0
          | succ c => simp [zeroV] at h
        | succ m => simp [zeroV] at h
      | some a => simp [zeroV] at h
    | map r => cases r with
      | none => simp [zeroV] at h; subst h; exact .nilmap
      | some r => simp [zeroV] at h
    | nilFunc => simp [zeroV] at h; subst h; exact .nilFunc
    | nilIface => simp [zeroV] at h; subst h; exact .nilIface
    | agg cs =>
      simp only [zeroV, Option.map_eq_some_iff] at h
      obtain ⟨l, hl, rfl⟩ := h
      exact .agg (zeroVs_ok hl)
    | _ => simp [zeroV] at h
theorem zeroVs_ok {ρ : Nat → Int} {Φ : Emb} : ∀ {n : Nat} {vs : List Value} {l : List V}, zeroV.go n vs = some l → VRs ρ Φ l vs := by
  intro n vs l h
  cases vs with
  | nil => simp [zeroV.go] at h; subst h; exact .nil
  | cons v vs =>
    simp only [zeroV.go] at h
    cases hv : zeroV n v with
    | none => rw [hv] at h; cases h
    | some x =>
      rw [hv] at h
      simp only at h
      cases hs : zeroV.go n vs with
      | none => rw [hs] at h; cases h
      | some xs => rw [hs] at h; simp at h; subst h; exact .cons (zeroV_ok hv) (zeroVs_ok hs)
end

def EnvR (ρ : Nat → Int) (Φ : Emb) (env : Env) (tmps : Array Value) : Prop := ∀ t v, env.get t = some v → ∃ x, tmps[t]? = some x ∧ VR ρ Φ v x
theorem EnvR.le {ρ : Nat → Int} {Φ Φ' : Emb} {env : Env} {tmps : Array Value} (h : EnvR ρ Φ env tmps) (hle : Φ.le Φ') : EnvR ρ Φ' env tmps :=
  fun t v ht => let ⟨x, h1, h2⟩ := h t v ht; ⟨x, h1, h2.le hle⟩

section operands
variable {ρ : Nat → Int} {Φ : Emb} {env : Env} {a : Act}
theorem eval_ok (hE : EnvR ρ Φ env a.tmps) {x : Operand} {y : Opd} {v : V} (h : opd x = some y) (hv : eval env y = some v) : VR ρ Φ v (a.eval x) := by
  cases x with
  | tmp t =>
    simp [opd] at h; subst h
    obtain ⟨u, h1, h2⟩ := hE t v hv
    simp [Act.eval, h1]; exact h2
  | const c =>
    simp only [opd, Option.map_eq_some_iff] at h
    obtain ⟨u, hu, rfl⟩ := h
    simp [eval] at hv; subst hv
    exact zeroV_ok hu
  | global g => simp [opd] at h; subst h; simp [eval] at hv; subst hv; exact .gptr g 0
  | func f => simp [opd] at h; subst h; simp [eval] at hv; subst hv; exact .func .nil .nil
theorem evals_ok (hE : EnvR ρ Φ env a.tmps) : ∀ {xs : List Operand} {ys : List Opd} {vs : List V}, opds xs = some ys → evals env ys = some vs → VRs ρ Φ vs (xs.map a.eval)
  | [], ys, vs, h, hv => by simp [opds] at h; subst h; simp [evals] at hv; subst hv; exact .nil
  | x :: xs, ys, vs, h, hv => by
    simp only [opds] at h
    split at h
    · rename_i y ys' h1 h2
      simp at h; subst h
      simp only [evals] at hv
      split at hv
      · cases hv
      · rename_i v hv1
        split at hv
        · cases hv
        · rename_i vs' hv2
          simp at hv; subst hv
          exact .cons (eval_ok hE h1 hv1) (evals_ok hE h2 hv2)
    · cases h
end operands

/-- What an operation of temporaries alone owes. -/
def PureOk (P : Program) (cx : Cx) (G : Nat) (ρ : Nat → Int) (o : Op) (r : Env → Option V) : Prop :=
  ∀ (oper : Oper), oper.op = o → ∀ Φ H w env (a : Act) v, Rel cx G ρ Φ H w → EnvR ρ Φ env a.tmps → r env = some v →
    ∃ x, (execOp a.eval oper).run P w = .ok (.value x) w ∧ VR ρ Φ v x

variable {P : Program} {cx : Cx} {G : Nat} {ρ : Nat → Int} {T : TT}

theorem move_ok {x : Operand} {y : Opd} (h : opd x = some y) : PureOk P cx G ρ (.move x) (oMove y) := by
  intro oper ho Φ H w env a v _ hE hv
  exact ⟨a.eval x, by simp [execOp, ho], eval_ok hE h hv⟩
theorem assign_ok {x : Operand} {y : Opd} (h : opd x = some y) : PureOk P cx G ρ (.assign x) (oMove y) := by
  intro oper ho Φ H w env a v _ hE hv
  exact ⟨a.eval x, by simp [execOp, ho], eval_ok hE h hv⟩
theorem pick_ok {c x y : Operand} {c' x' y' : Opd} (hc : opd c = some c') (hx : opd x = some x') (hy : opd y = some y') : PureOk P cx G ρ (.pick c x y) (oPick c' x' y') := by
  intro oper ho Φ H w env a v _ hE hv
  unfold oPick at hv
  split at hv
  · rename_i he
    have := eval_ok hE hc he
    generalize hcv : a.eval c = cv at this
    cases this
    exact ⟨a.eval x, by simp [execOp, ho, hcv, asBool], eval_ok hE hx hv⟩
  · rename_i he
    have := eval_ok hE hc he
    generalize hcv : a.eval c = cv at this
    cases this
    exact ⟨a.eval y, by simp [execOp, ho, hcv, asBool], eval_ok hE hy hv⟩
  · cases hv
theorem extract_ok {x : Operand} {y : Opd} {i : Nat} (h : opd x = some y) : PureOk P cx G ρ (.extract x i) (oExtract y i) := by
  intro oper ho Φ H w env a v _ hE hv
  unfold oExtract at hv
  split at hv
  · rename_i vs he
    have := eval_ok hE h he
    generalize hxv : a.eval x = xv at this
    cases this with
    | tuple hs =>
      obtain ⟨u, h1, h2⟩ := hs.get hv
      refine ⟨u, ?_, h2⟩
      simp [execOp, ho, hxv, Instr.extract]
      rw [Array.getElem?_toList] at h1
      simp [h1]
  · cases hv
theorem mkIface_ok (hT : TTok P T) {t : Nat} {d : TypeDesc} {x : Operand} {y : Opd} (h : opd x = some y) (hd : T.und t = some d) (hn : ∀ ms, d ≠ .interface ms) :
    PureOk P cx G ρ (.makeInterface t x) (oMkIface t y) := by
  intro oper ho Φ H w env a v _ hE hv
  unfold oMkIface at hv
  split at hv
  · rename_i u he
    simp at hv; subst hv
    refine ⟨.iface t (a.eval x), ?_, .iface (eval_ok hE h he)⟩
    simp [execOp, ho, Instr.makeInterface, run_und hT w hd]
  · cases hv

end Go.Sk

/-
  SK, PART F. Integers, texts and comparisons.
-/
namespace Go.Sk

theorem ile_eq (x y : Int) : ile x y = decide (x ≤ y) := by
  cases x <;> cases y <;> simp only [ile, nble, Bool.true_eq, Bool.false_eq, decide_eq_decide] <;> (try simp) <;> omega
theorem ieq_eq (x y : Int) : ieq x y = (x == y) := by
  cases x with
  | ofNat m => cases y with
    | ofNat n => simp [ieq, nbeq, Bool.beq_eq_decide_eq, Int.ofNat_inj]
    | negSucc n => simp [ieq, Bool.beq_eq_decide_eq]
  | negSucc m => cases y with
    | ofNat n => simp [ieq, Bool.beq_eq_decide_eq]
    | negSucc n => simp [ieq, nbeq, Bool.beq_eq_decide_eq]
theorem wrap_in (k : IntKind) (n : Int) (h : k.min ≤ n ∧ n ≤ k.max) : n = k.wrap n := by
  cases k <;> simp [IntKind.min, IntKind.max, IntKind.bits, IntKind.signed] at h <;> simp [IntKind.wrap, IntKind.bits, IntKind.signed] <;> omega
theorem fwrap_eq (k : IntKind) (n : Int) : fwrap k n = k.wrap n := by
  have hb : ∀ lo hi : Int, (k.min = lo) → (k.max = hi) → (bif ile lo n && ile n hi then n else k.wrap n) = k.wrap n := by
    intro lo hi h1 h2
    simp only [ile_eq, ← Bool.decide_and, bif_ite]
    split
    · rename_i h; exact wrap_in k n (by rw [h1, h2]; exact h)
    · rfl
  cases k
  case i64 => exact hb _ _ (by decide) (by decide)
  case u64 => exact hb _ _ (by decide) (by decide)
  case u8 => exact hb _ _ (by decide) (by decide)
  all_goals rfl

/-- The facts that a run leans on hold. -/
def AsmOk (cx : Cx) (ρ : Nat → Int) : Prop := ∀ o a b r, (o, a, b, r) ∈ cx.asm → cmpInt o (a.ev ρ) (b.ev ρ) = r
theorem asmFind_mem {o : BinOp} {a b : IE} {r : Bool} : ∀ {l : List (BinOp × IE × IE × Bool)}, asmFind o a b l = some r → (o, a, b, r) ∈ l
  | [], h => by simp [asmFind] at h
  | (o', a', b', r') :: l, h => by
    simp only [asmFind] at h
    split at h
    · rename_i hc
      obtain ⟨rfl, rfl, rfl⟩ := hc
      simp at h; subst h; exact List.mem_cons_self
    · exact List.mem_cons_of_mem _ (asmFind_mem h)
theorem litCmp_ok {o : BinOp} {x y : Int} {r : Bool} (h : litCmp o x y = some r) : cmpInt o x y = r := by
  cases o <;> simp only [litCmp, Option.some.injEq, reduceCtorEq] at h <;> subst h <;> simp only [cmpInt, ile_eq, ieq_eq]
  · rfl
  · rw [← decide_not]; congr 1; simp
  · rw [← decide_not]; congr 1; simp
theorem ieCmp_ok {cx : Cx} {ρ : Nat → Int} (hA : AsmOk cx ρ) {o : BinOp} {a b : IE} {r : Bool} (h : ieCmp cx o a b = some r) : cmpInt o (a.ev ρ) (b.ev ρ) = r := by
  unfold ieCmp at h
  split at h
  · exact litCmp_ok h
  · split at h
    · split at h
      · rename_i hab; simp at h; subst h; subst hab; simp [cmpInt]
      · exact hA _ _ _ _ (asmFind_mem h)
    · split at h
      · rename_i hab; simp at h; subst h; subst hab; simp [cmpInt]
      · exact hA _ _ _ _ (asmFind_mem h)
    · exact hA _ _ _ _ (asmFind_mem h)

section ints
variable {P : Program} {cx : Cx} {ρ : Nat → Int} {Φ : Emb} (w : World)
theorem run_intCmp {o : BinOp} {x y : Int} (ho : o = .eql ∨ o = .neq ∨ o = .lss ∨ o = .leq ∨ o = .gtr ∨ o = .geq) : (Op.intCmp o x y).run P w = .ok (.bool (cmpInt o x y)) w := by
  rcases ho with rfl | rfl | rfl | rfl | rfl | rfl <;> rfl
theorem litArith_ok {o : BinOp} {k : IntKind} {x y n : Int} (t : TypeId) (h : litArith o k x y = some n) :
    (binOp o t (.int k x) (.int k y)).run P w = .ok (.int k n) w := by
  cases o <;> simp only [litArith, Option.some.injEq, reduceCtorEq] at h
  case add => subst h; simp [binOp, Op.intArith, fwrap_eq]; try rfl
  case sub => subst h; simp [binOp, Op.intArith, fwrap_eq]; try rfl
  case mul => subst h; simp [binOp, Op.intArith, fwrap_eq]; try rfl
  case quo =>
    rw [ieq_eq] at h
    by_cases hy : y = 0
    · subst hy; simp at h
    · have : (y == Int.ofNat 0) = false := by simpa using hy
      simp only [this, cond_false, Option.some.injEq] at h
      subst h; simp [binOp, Op.intDiv, hy, fwrap_eq]
  case rem =>
    rw [ieq_eq] at h
    by_cases hy : y = 0
    · subst hy; simp at h
    · have : (y == Int.ofNat 0) = false := by simpa using hy
      simp only [this, cond_false, Option.some.injEq] at h
      subst h; simp [binOp, Op.intDiv, hy]
  case and => subst h; simp [binOp, Op.intBits, fwrap_eq]
  case or => subst h; simp [binOp, Op.intBits, fwrap_eq]
  case xor => subst h; simp [binOp, Op.intBits, fwrap_eq]
  case andNot => subst h; simp [binOp, Op.intBits, fwrap_eq]
theorem litShift_ok {o : BinOp} {k k' : IntKind} {x y n : Int} (t : TypeId) (h : litShift o k x y = some n) :
    (binOp o t (.int k x) (.int k' y)).run P w = .ok (.int k n) w := by
  unfold litShift at h
  split at h
  · cases h
  · rename_i m
    split at h
    · simp only [nble, bif_ite] at h
      split at h
      · rename_i hm
        simp at h; subst h
        simp only [binOp, Op.shift]
        rw [if_neg (by simp)]
        simp [Nat.min_eq_left hm, fwrap_eq]
      · cases h
    · simp only [nble, bif_ite] at h
      split at h
      · rename_i hm
        simp at h; subst h
        simp only [binOp, Op.shift]
        rw [if_neg (by simp)]
        simp [Nat.min_eq_left hm]
      · cases h
    · cases h
theorem ieArith_ok (hA : AsmOk cx ρ) {o : BinOp} {k : IntKind} {a b e : IE} (t : TypeId) (h : ieArith cx o k a b = some e) :
    (binOp o t (.int k (a.ev ρ)) (.int k (b.ev ρ))).run P w = .ok (.int k (e.ev ρ)) w := by
  unfold ieArith at h
  split at h
  · rename_i x y
    simp only [Option.map_eq_some_iff] at h
    obtain ⟨n, hn, rfl⟩ := h
    exact litArith_ok w t hn
  · split at h
    · simp at h; subst h; simp [binOp, Op.intArith, IE.ev, opInt]
    · simp at h; subst h; simp [binOp, Op.intArith, IE.ev, opInt]
    · simp at h; subst h; simp [binOp, Op.intArith, IE.ev, opInt]
    · cases hc : ieCmp cx .eql b (.lit 0) with
      | none => rw [hc] at h; simp at h
      | some r =>
        rw [hc] at h
        cases r
        · simp at h; subst h
          have := ieCmp_ok hA hc
          simp [cmpInt, IE.ev] at this
          simp [binOp, Op.intDiv, IE.ev, opInt, this]
        · simp at h
    · cases hc : ieCmp cx .eql b (.lit 0) with
      | none => rw [hc] at h; simp at h
      | some r =>
        rw [hc] at h
        cases r
        · simp at h; subst h
          have := ieCmp_ok hA hc
          simp [cmpInt, IE.ev] at this
          simp [binOp, Op.intDiv, IE.ev, opInt, this]
        · simp at h
    · cases h
theorem binInt_ok (hA : AsmOk cx ρ) {o : BinOp} {k k' : IntKind} {a b : IE} {v : V} (t : TypeId) (h : binInt cx o k k' a b = some v) :
    ∃ x, (binOp o t (.int k (a.ev ρ)) (.int k' (b.ev ρ))).run P w = .ok x w ∧ VR ρ Φ v x := by
  have hcmp : (o = .eql ∨ o = .neq ∨ o = .lss ∨ o = .leq ∨ o = .gtr ∨ o = .geq) → (if k = k' then (match ieCmp cx o a b with
      | some r => some (V.bool r)
      | none => some V.abool) else none) = some v →
      ∃ x, (binOp o t (.int k (a.ev ρ)) (.int k' (b.ev ρ))).run P w = .ok x w ∧ VR ρ Φ v x := by
    intro ho h
    by_cases hk : k = k'
    · subst hk
      rw [if_pos rfl] at h
      have hrun : (binOp o t (.int k (a.ev ρ)) (.int k (b.ev ρ))).run P w = .ok (.bool (cmpInt o (a.ev ρ) (b.ev ρ))) w := by
        rcases ho with rfl | rfl | rfl | rfl | rfl | rfl <;> simp [binOp, run_intCmp]
      split at h
      · rename_i r hr
        simp only [Option.some.injEq] at h
        subst h
        refine ⟨_, hrun, ?_⟩
        rw [ieCmp_ok hA hr]
        exact .bool r
      · simp only [Option.some.injEq] at h
        subst h
        exact ⟨_, hrun, .abool _⟩
    · rw [if_neg hk] at h; cases h
  have harith : (if k = k' then (ieArith cx o k a b).map (V.int k) else none) = some v →
      ∃ x, (binOp o t (.int k (a.ev ρ)) (.int k' (b.ev ρ))).run P w = .ok x w ∧ VR ρ Φ v x := by
    intro h
    by_cases hk : k = k'
    · subst hk
      rw [if_pos rfl] at h
      simp only [Option.map_eq_some_iff] at h
      obtain ⟨e, he, rfl⟩ := h
      exact ⟨_, ieArith_ok w hA t he, .int k e⟩
    · rw [if_neg hk] at h; cases h
  unfold binInt at h
  cases o
  case shl =>
    simp only at h
    split at h
    · rename_i x y
      simp only [Option.map_eq_some_iff] at h
      obtain ⟨n, hn, rfl⟩ := h
      exact ⟨_, litShift_ok w t hn, .int k (.lit n)⟩
    · cases h
  case shr =>
    simp only at h
    split at h
    · rename_i x y
      simp only [Option.map_eq_some_iff] at h
      obtain ⟨n, hn, rfl⟩ := h
      exact ⟨_, litShift_ok w t hn, .int k (.lit n)⟩
    · cases h
  case eql => exact hcmp (by simp) h
  case neq => exact hcmp (by simp) h
  case lss => exact hcmp (by simp) h
  case leq => exact hcmp (by simp) h
  case gtr => exact hcmp (by simp) h
  case geq => exact hcmp (by simp) h
  all_goals exact harith h
end ints

/-! ### Texts -/
theorem u8_inj : ∀ {a b : UInt8}, a.toNat = b.toNat → a = b := fun {a b} h => UInt8.toNat_inj.1 h
theorem map_u8_inj {x y : List UInt8} (h : x.map UInt8.toNat = y.map UInt8.toNat) : x = y := by
  induction x generalizing y with
  | nil => cases y with | nil => rfl | cons _ _ => simp at h
  | cons a x ih => cases y with
    | nil => simp at h
    | cons b y => simp only [List.map_cons, List.cons.injEq] at h; rw [u8_inj h.1, ih h.2]
theorem strEq_eq : ∀ (x y : List Nat), strEq x y = decide (x = y)
  | [], [] => rfl
  | [], _ :: _ => rfl
  | _ :: _, [] => rfl
  | a :: x, b :: y => by simp [strEq, nbeq, strEq_eq x y, Bool.decide_and]
theorem strLt_eq : ∀ (x y : List UInt8), strLt (x.map UInt8.toNat) (y.map UInt8.toNat) = Op.bytesLess x y
  | _, [] => by simp [strLt, Op.bytesLess]
  | [], _ :: _ => rfl
  | a :: x, b :: y => by
    simp only [List.map_cons, strLt, Op.bytesLess, nblt, nbeq, strLt_eq x y]
    congr 1
    congr 1
    rw [Bool.eq_iff_iff]; simp [UInt8.toNat_inj]
theorem strEq_map (x y : List UInt8) : strEq (x.map UInt8.toNat) (y.map UInt8.toNat) = (x == y) := by
  rw [strEq_eq, Bool.eq_iff_iff]; simp
  exact ⟨map_u8_inj, fun h => by rw [h]⟩
theorem binStr_ok {P : Program} {ρ : Nat → Int} {Φ : Emb} (w : World) {o : BinOp} {s u : ByteArray} {v : V}
    (h : binStr o (s.data.toList.map UInt8.toNat) (u.data.toList.map UInt8.toNat) = some v) :
    ∃ x, (Op.stringOp o s u).run P w = .ok x w ∧ VR ρ Φ v x := by
  unfold binStr at h
  cases o <;> simp only [strLt_eq, strEq_map, Option.some.injEq, reduceCtorEq] at h
  case add =>
    simp only [nble, bif_ite] at h
    split at h
    · rename_i hl
      simp at h; subst h
      refine ⟨.string (s ++ u), ?_, ?_⟩
      · simp only [Op.stringOp]
        rw [if_neg]
        · rfl
        · simp [IntKind.max, IntKind.bits, IntKind.signed] at hl ⊢; omega
      · have := VR.str (ρ := ρ) (Φ := Φ) (s ++ u)
        simpa using this
    · cases h
  case eql => subst h; exact ⟨_, by simp [Op.stringOp, ByteArray.toList_eq], .bool _⟩
  case neq => subst h; exact ⟨_, by simp [Op.stringOp, ByteArray.toList_eq], .bool _⟩
  case lss => subst h; exact ⟨_, by simp [Op.stringOp, ByteArray.toList_eq], .bool _⟩
  case leq => subst h; exact ⟨_, by simp [Op.stringOp, ByteArray.toList_eq], .bool _⟩
  case gtr => subst h; exact ⟨_, by simp [Op.stringOp, ByteArray.toList_eq], .bool _⟩
  case geq => subst h; exact ⟨_, by simp [Op.stringOp, ByteArray.toList_eq], .bool _⟩

end Go.Sk

/-
  SK, PART G. The other operations of temporaries: comparisons of places, slices, fields, functions.
-/
namespace Go.Sk
variable {P : Program} {cx : Cx} {G : Nat} {ρ : Nat → Int} {T : TT} {Φ : Emb} {H : Heap} {w : World}

theorem Rel.asmOk (R : Rel cx G ρ Φ H w) : AsmOk cx ρ := fun o a b r h => R.asm o a b r h

/-- Two places of the abstract heap, and the world's. -/
theorem Rel.sameDA (R : Rel cx G ρ Φ H w) {a b : DA} {x y : Addr} {r : Bool} (hx : AR Φ a x) (hy : AR Φ b y) (h : Sk.sameDA a b = some r) :
    (Go.sameAddr x y).run P w = .ok r w := by
  obtain ⟨l, h1, h2, h3, h4, h5⟩ := hx
  obtain ⟨m, k1, k2, k3, k4, k5⟩ := hy
  obtain ⟨xb, xo, xs⟩ := x
  obtain ⟨yb, yo, ys⟩ := y
  simp only at h2 h3 h4 k2 k3 k4
  subst h2; subst h4; subst k2; subst k4
  unfold Sk.sameDA at h
  simp only [nbeq, bif_ite] at h
  by_cases hf : a.fam = b.fam
  · rw [if_pos hf] at h
    by_cases he : a.ep = b.ep
    · rw [if_pos he] at h
      simp only [Option.some.injEq] at h
      subst h
      rw [hf, he] at h1
      rw [h1] at k1
      obtain rfl : l = m := by simpa using k1
      simp only [Go.sameAddr]
      simp
      by_cases ho : a.off = b.off
      · have : xo = yo := by omega
        simp [ho, this]
      · have : xo ≠ yo := by omega
        simp [ho, this]
    · rw [if_neg he] at h; cases h
  · rw [if_neg hf] at h
    simp only [Option.some.injEq] at h
    subst h
    have hb : l.blk ≠ m.blk := fun hb => hf (R.inj _ _ _ _ _ _ h1 k1 hb).1
    obtain ⟨arr, t, ha⟩ := R.kind _ _ _ h1 h5
    obtain ⟨brr, u, hb'⟩ := R.kind _ _ _ k1 k5
    simp [Go.sameAddr, hb, World.frozen?, ha, hb', noView, viewAt, World.shape?, mayBeOne, stringish]

def EqUnd (T : TT) (t : Nat) : EqK → Prop
  | .prim => True
  | .bool => T.und t = some .bool
  | .ptr => ∃ e n, T.und t = some (.pointer e) ∧ T.size e = some n ∧ n ≠ 0
  | .iface => ∃ ms, T.und t = some (.interface ms)
  | .slice => ∃ e, T.und t = some (.slice e)
  | .map => ∃ k e, T.und t = some (.map k e)
  | .func => ∃ a b c, T.und t = some (.func a b c)
theorem eqUnd_ok {t : Nat} {ek : EqK} (hk : eqK T t = some ek) : EqUnd T t ek := by
  unfold eqK at hk
  split at hk
  · rename_i h; simp at hk; subst hk; exact h
  · simp at hk; subst hk; trivial
  · simp at hk; subst hk; trivial
  · rename_i e h
    split at hk
    · rename_i n hn
      simp only [nbeq, bif_ite] at hk
      split at hk
      · cases hk
      · rename_i hne; simp at hk; subst hk; exact ⟨e, n, h, hn, hne⟩
    · cases hk
  · rename_i ms h; simp at hk; subst hk; exact ⟨ms, h⟩
  · rename_i e h; simp at hk; subst hk; exact ⟨e, h⟩
  · rename_i k e h; simp at hk; subst hk; exact ⟨k, e, h⟩
  · rename_i a b c h; simp at hk; subst hk; exact ⟨a, b, c, h⟩
  · cases hk
theorem eqV_in (R : Rel cx G ρ Φ H w) (hT : TTok P T) {t : Nat} {ek : EqK} (hk : eqK T t = some ek) {cf : Bool} {u v : V} {x y : Value} {r : Bool}
    (hu : VR ρ Φ u x) (hv : VR ρ Φ v y) (h : eqV ek cf u v = some r) (d : Nat) : (Op.equalIn (d + 1) t x y).run P w = .ok r w := by
  have hund := eqUnd_ok hk
  clear hk
  unfold eqV at h
  split at h
  -- bool
  · split at h
    · simp at h; subst h; cases hu; cases hv
      simp [Op.equalIn, run_und hT w hund]
    · cases h
  -- pointers
  · split at h
    · obtain ⟨e, n, h1, h2, h3⟩ := hund
      simp at h; subst h; cases hu
      cases hv <;> simp [Op.equalIn, run_und hT w h1]
    · cases h
  · split at h
    · obtain ⟨e, n, h1, h2, h3⟩ := hund
      simp at h; subst h; cases hu; cases hv
      simp [Op.equalIn, run_und hT w h1]
    · cases h
  · split at h
    · obtain ⟨e, n, h1, h2, h3⟩ := hund
      cases hu with | ptr ha => cases hv with | ptr hb =>
      simp [Op.equalIn, run_und hT w h1, run_size hT w h2, h3, R.sameDA ha hb h]
    · cases h
  -- interfaces
  · split at h
    · obtain ⟨ms, h1⟩ := hund
      cases hu; cases hv
      cases cf <;> simp at h
      subst h
      simp [Op.equalIn, run_und hT w h1]
    · cases h
  · split at h
    · obtain ⟨ms, h1⟩ := hund
      simp at h; subst h; cases hu; cases hv
      simp [Op.equalIn, run_und hT w h1]
    · cases h
  · split at h
    · obtain ⟨ms, h1⟩ := hund
      simp at h; subst h; cases hu; cases hv
      simp [Op.equalIn, run_und hT w h1]
    · cases h
  -- slices
  · split at h
    · obtain ⟨e, h1⟩ := hund
      simp at h; subst h; cases hu
      cases hv <;> simp [Op.equalIn, run_und hT w h1]
    · cases h
  · split at h
    · obtain ⟨e, h1⟩ := hund
      simp at h; subst h
      cases hv
      cases hu <;> simp [Op.equalIn, run_und hT w h1]
    · cases h
  -- maps
  · split at h
    · obtain ⟨k, e, h1⟩ := hund
      simp at h; subst h; cases hu
      cases hv <;> simp [Op.equalIn, run_und hT w h1]
    · cases h
  · split at h
    · obtain ⟨k, e, h1⟩ := hund
      simp at h; subst h; cases hu; cases hv
      simp [Op.equalIn, run_und hT w h1]
    · cases h
  -- functions
  · split at h
    · obtain ⟨a, b, c, h1⟩ := hund
      simp at h; subst h; cases hu; cases hv
      simp [Op.equalIn, run_und hT w h1]
    · cases h
  · split at h
    · obtain ⟨a, b, c, h1⟩ := hund
      simp at h; subst h; cases hu; cases hv
      simp [Op.equalIn, run_und hT w h1]
    · cases h
  · split at h
    · obtain ⟨a, b, c, h1⟩ := hund
      simp at h; subst h; cases hu; cases hv
      simp [Op.equalIn, run_und hT w h1]
    · cases h
  · cases h

theorem eqV_ok (R : Rel cx G ρ Φ H w) (hT : TTok P T) {t : Nat} {ek : EqK} (hk : eqK T t = some ek) {cf : Bool} {u v : V} {x y : Value} {r : Bool}
    (hu : VR ρ Φ u x) (hv : VR ρ Φ v y) (h : eqV ek cf u v = some r) : (Op.equal t x y).run P w = .ok r w :=
  eqV_in R hT hk hu hv h 9999

theorem eqGuard_other {o : BinOp} {t : Nat} {xo yo : Operand} {x y : Value} (h1 : ¬ (x = .nilIface ∧ y = .nilIface)) (h2 : ∀ a b, ¬ (x = .agg a ∧ y = .agg b)) :
    (eqGuard o t xo yo x y).run P w = .ok () w := by
  cases o <;> first
    | rfl
    | (simp only [eqGuard, Bool.not_true, Bool.false_eq_true, if_false]
       split
       · exact absurd ⟨rfl, rfl⟩ h1
       · exact absurd ⟨rfl, rfl⟩ (h2 _ _)
       · rfl)
theorem eqGuard_nil {o : BinOp} {t : Nat} {xo yo : Operand} (h : (isConstOp xo || isConstOp yo) = true) : (eqGuard o t xo yo .nilIface .nilIface).run P w = .ok () w := by
  cases o <;> first
    | rfl
    | (cases xo <;> cases yo <;> first | rfl | (simp [isConstOp] at h))
theorem eqV_agg {ek : EqK} {cf : Bool} {a : List V} {v : V} : eqV ek cf (.agg a) v = none := by cases v <;> rfl
theorem eqGuard_ok {o : BinOp} {ek : EqK} {t : Nat} {xo yo : Operand} {u v : V} {x y : Value} {r : Bool}
    (hu : VR ρ Φ u x) (hv : VR ρ Φ v y) (h : eqV ek (isConstOp xo || isConstOp yo) u v = some r) : (eqGuard o t xo yo x y).run P w = .ok () w := by
  by_cases h1 : x = .nilIface ∧ y = .nilIface
  · obtain ⟨rfl, rfl⟩ := h1
    cases hu; cases hv
    apply eqGuard_nil
    unfold eqV at h
    simp only at h
    split at h
    · cases hc : (isConstOp xo || isConstOp yo)
      · rw [hc] at h; simp at h
      · rfl
    · cases h
  · refine eqGuard_other h1 fun a b hab => ?_
    obtain ⟨rfl, rfl⟩ := hab
    cases hu
    rw [eqV_agg] at h
    cases h

theorem binOp_eql {t : TypeId} {x y : Value} (h1 : ∀ k n, x ≠ .int k n) (h2 : ∀ s, x ≠ .string s) (h3 : ∀ k n, x ≠ .float k n) (h4 : ∀ k n m, x ≠ .complex k n m) :
    binOp .eql t x y = (do pure (.bool (← Op.equal t x y))) := by
  cases x <;> first
    | (exact absurd rfl (h1 _ _)) | (exact absurd rfl (h2 _)) | (exact absurd rfl (h3 _ _)) | (exact absurd rfl (h4 _ _ _))
    | (cases y <;> rfl)
theorem binOp_neq {t : TypeId} {x y : Value} (h1 : ∀ k n, x ≠ .int k n) (h2 : ∀ s, x ≠ .string s) (h3 : ∀ k n, x ≠ .float k n) (h4 : ∀ k n m, x ≠ .complex k n m) :
    binOp .neq t x y = (do pure (.bool (!(← Op.equal t x y)))) := by
  cases x <;> first
    | (exact absurd rfl (h1 _ _)) | (exact absurd rfl (h2 _)) | (exact absurd rfl (h3 _ _)) | (exact absurd rfl (h4 _ _ _))
    | (cases y <;> rfl)
theorem eqV_plain {ek : EqK} {cf : Bool} {u v : V} {x : Value} {r : Bool} (hu : VR ρ Φ u x) (h : eqV ek cf u v = some r) :
    (∀ k n, x ≠ .int k n) ∧ (∀ s, x ≠ .string s) ∧ (∀ k n, x ≠ .float k n) ∧ (∀ k n m, x ≠ .complex k n m) := by
  cases hu <;> first
    | (simp; done)
    | (cases v <;> simp [eqV] at h)

theorem eqGuard_int {o : BinOp} {t : Nat} {xo yo : Operand} (k k' : IntKind) (n m : Int) : (eqGuard o t xo yo (.int k n) (.int k' m)).run P w = .ok () w :=
  eqGuard_other (by simp) (by simp)
theorem eqGuard_str {o : BinOp} {t : Nat} {xo yo : Operand} (s u : ByteArray) : (eqGuard o t xo yo (.string s) (.string u)).run P w = .ok () w :=
  eqGuard_other (by simp) (by simp)
/-- The comparison of two operands, behind its guard. -/
def BinRun (P : Program) (ρ : Nat → Int) (Φ : Emb) (w : World) (o : BinOp) (t : Nat) (x y : Operand) (X Y : Value) (v : V) : Prop :=
  ∃ z, ((do eqGuard o t x y X Y; binOp o t X Y : Sem Value).run P w) = .ok z w ∧ VR ρ Φ v z
theorem binRest_ok (R : Rel cx G ρ Φ H w) (hT : TTok P T) {o : BinOp} {t : Nat} {x y : Operand} {ek : EqK} (hk : eqK T t = some ek) {u u' v : V} {X Y : Value}
    (r1 : VR ρ Φ u X) (r2 : VR ρ Φ u' Y) (hv : binRest o ek (isConstOp x || isConstOp y) u u' = some v) : BinRun P ρ Φ w o t x y X Y v := by
  cases o <;> simp only [binRest, reduceCtorEq] at hv
  · simp only [Option.map_eq_some_iff] at hv
    obtain ⟨r, hr, rfl⟩ := hv
    obtain ⟨p1, p2, p3, p4⟩ := eqV_plain r1 hr
    refine ⟨.bool r, ?_, .bool r⟩
    simp [eqGuard_ok r1 r2 hr, binOp_eql p1 p2 p3 p4, eqV_ok R hT hk r1 r2 hr]
  · simp only [Option.map_eq_some_iff] at hv
    obtain ⟨r, hr, rfl⟩ := hv
    obtain ⟨p1, p2, p3, p4⟩ := eqV_plain r1 hr
    refine ⟨.bool (!r), ?_, .bool (!r)⟩
    simp [eqGuard_ok r1 r2 hr, binOp_neq p1 p2 p3 p4, eqV_ok R hT hk r1 r2 hr]
theorem binV_ok (R : Rel cx G ρ Φ H w) (hT : TTok P T) {o : BinOp} {t : Nat} {x y : Operand} {ek : EqK} (hk : eqK T t = some ek) {u u' v : V} {X Y : Value}
    (r1 : VR ρ Φ u X) (r2 : VR ρ Φ u' Y) (hv : binV cx o ek (isConstOp x || isConstOp y) u u' = some v) : BinRun P ρ Φ w o t x y X Y v := by
  unfold binV at hv
  split at hv
  · cases r1; cases r2
    obtain ⟨z, h1, h2⟩ := binInt_ok (P := P) (Φ := Φ) w R.asmOk t hv
    exact ⟨z, by simp only [Sem.run_bind, eqGuard_int, Result.andThen_ok, h1], h2⟩
  · cases r1; cases r2
    obtain ⟨z, h1, h2⟩ := binStr_ok (P := P) (ρ := ρ) (Φ := Φ) w hv
    refine ⟨z, ?_, h2⟩
    simp only [Sem.run_bind, eqGuard_str, Result.andThen_ok]
    rw [← h1]
    cases o <;> rfl
  · exact binRest_ok R hT hk r1 r2 hv
theorem bin_ok (hT : TTok P T) {o : BinOp} {t yt : Nat} {x y : Operand} {x' y' : Opd} {ek : EqK} (hx : opd x = some x') (hy : opd y = some y') (hk : eqK T t = some ek) :
    PureOk P cx G ρ (.binOp o t x y yt) (oBin cx o ek (isConstOp x || isConstOp y) x' y') := by
  intro oper ho Φ H w env a v R hE hv
  unfold oBin at hv
  split at hv
  · cases hv
  · rename_i u hu
    split at hv
    · cases hv
    · rename_i u' hu'
      obtain ⟨z, h1, h2⟩ := binV_ok R hT hk (eval_ok hE hx hu) (eval_ok hE hy hu') hv
      refine ⟨z, ?_, h2⟩
      have : execOp a.eval oper = (do pure (.value (← (do eqGuard o t x y (a.eval x) (a.eval y); binOp o t (a.eval x) (a.eval y) : Sem Value)))) := by
        simp only [execOp, ho]
      rw [this, Sem.run_bind, h1]
      rfl
end Go.Sk

/-
  SK, PART H. The remaining operations of temporaries.
-/
namespace Go.Sk
variable {P : Program} {cx : Cx} {G : Nat} {ρ : Nat → Int} {T : TT} {Φ : Emb} {H : Heap} {w : World}

theorem VR.cells {v : V} {x : Value} (r : VR ρ Φ v x) : VRs ρ Φ v.cells x.cells.toList := by
  cases r with
  | agg h => exact h
  | slice0 a b z => exact .cons (.slice0 a b z) .nil
  | nilslice z => exact .cons (.nilslice z) .nil
  | _ => exact .cons (by constructor <;> assumption) .nil
theorem listSet_ok {cs : List V} {cells : Array Value} (hc : VRs ρ Φ cs cells.toList) : ∀ {vs : List V} {xs : List Value} (off : Nat), VRs ρ Φ vs xs →
    VRs ρ Φ (listSet cs off vs) ((xs.zipIdx 0).foldl (fun (c : Array Value) (p : Value × Nat) => c.setIfInBounds (off + p.2) p.1) cells).toList := by
  intro vs xs off hv
  have key : ∀ (vs : List V) (xs : List Value) (cs : List V) (cells : Array Value) (off k : Nat), VRs ρ Φ cs cells.toList → VRs ρ Φ vs xs →
      VRs ρ Φ (listSet cs (off + k) vs) ((xs.zipIdx k).foldl (fun (c : Array Value) (p : Value × Nat) => c.setIfInBounds (off + p.2) p.1) cells).toList := by
    intro vs
    induction vs with
    | nil => intro xs cs cells off k hc hv; cases hv; simpa [listSet] using hc
    | cons v vs ih =>
      intro xs cs cells off k hc hv
      cases hv with
      | cons a b =>
        simp only [listSet, List.zipIdx_cons, List.foldl_cons]
        have := ih _ (cs.set (off + k) v) (cells.setIfInBounds (off + k) _) off (k + 1) (by simpa using hc.set (off + k) a) b
        simpa [Nat.add_assoc] using this
  simpa using key vs xs cs cells off 0 hc hv
theorem listSet_length : ∀ (vs cs : List V) (off : Nat), (listSet cs off vs).length = cs.length
  | [], _, _ => rfl
  | v :: vs, cs, off => by simp [listSet, listSet_length vs]
theorem VRs.toArray {vs : List V} {xs : Array Value} (h : VRs ρ Φ vs xs.toList) : vs.length = xs.size := by
  have := h.length; simpa using this

theorem fill_ok {env : Env} {a : Act} (hE : EnvR ρ Φ env a.tmps) {place : Nat → Option (Nat × Nat)} : ∀ {l : List (Nat × Operand)} {ps : List (Nat × Nat × Opd)} {cs out : List V} {cells : Array Value},
    partsOf place l = some ps → fillParts env cs ps = some out → VRs ρ Φ cs cells.toList →
    ∃ o : Array Value, Instr.fill place cells (l.map fun x => (x.fst, a.eval x.snd)) = some o ∧ VRs ρ Φ out o.toList
  | [], ps, cs, out, cells, h1, h2, hc => by
    simp [partsOf] at h1; subst h1; simp [fillParts] at h2; subst h2
    exact ⟨cells, rfl, hc⟩
  | (i, x) :: l, ps, cs, out, cells, h1, h2, hc => by
    simp only [partsOf] at h1
    split at h1
    · rename_i off sz y ps' e1 e2 e3
      simp at h1; subst h1
      simp only [fillParts] at h2
      split at h2
      · cases h2
      · rename_i v hv
        simp only [nbeq, nble, ← Bool.decide_and] at h2
        by_cases hcond : (v.cells.length = sz ∧ off + sz ≤ cs.length) ∧ allFlat v.cells = true
        · simp only [hcond, decide_true, and_self, Bool.and_self, cond_true] at h2
          have hr := eval_ok hE e2 hv
          have hrc := hr.cells
          have hlen : (a.eval x).cells.size = sz := by rw [← hrc.toArray]; exact hcond.1.1
          have hcl := hc.toArray
          obtain ⟨o, ho1, ho2⟩ := fill_ok hE (l := l) (ps := ps') (cs := listSet cs off v.cells) (out := out)
            (cells := (((a.eval x).cells.toList.zipIdx 0).foldl (fun (c : Array Value) (p : Value × Nat) => c.setIfInBounds (off + p.2) p.1) cells)) e3 h2 (listSet_ok hc off hrc)
          refine ⟨o, ?_, ho2⟩
          simp only [List.map_cons, Instr.fill, e1]
          rw [if_neg (by simp [hlen]; omega)]
          rw [← ho1]
          have e : (Array.foldl (fun (c : Array Value) (p : Value × Nat) => c.setIfInBounds (off + p.2) p.1) cells (a.eval x).cells.zipIdx) =
              ((a.eval x).cells.toList.zipIdx 0).foldl (fun (c : Array Value) (p : Value × Nat) => c.setIfInBounds (off + p.2) p.1) cells := by
            rw [← Array.foldl_toList, Array.toList_zipIdx]
          rw [← e]
        · have : (decide (v.cells.length = sz ∧ off + sz ≤ cs.length) && allFlat v.cells) = false := by
            rw [Bool.eq_false_iff]; intro hh; simp only [Bool.and_eq_true, decide_eq_true_eq] at hh; exact hcond hh
          rw [this] at h2; cases h2
    · cases h1

theorem zero_ok (hT : TTok P T) {t : Nat} {z : V} (h : T.zero t = some z) (w : World) : ∃ zv, (zeroValue t).run P w = .ok zv w ∧ ∀ ρ Φ, VR ρ Φ z zv := by
  unfold TT.zero at h
  cases hi : T t with
  | none => rw [hi] at h; cases h
  | some i =>
    rw [hi] at h
    simp only at h
    cases hz : i.zero with
    | none => rw [hz] at h; cases h
    | some zv =>
      rw [hz] at h
      exact ⟨zv, by simp [zeroValue, run_info hT w hi, hz], fun _ _ => zeroV_ok h⟩

theorem run_places (hT : TTok P T) : ∀ {fs : List Field} {pl : List (Nat × Nat)}, fieldsPlaces T fs = some pl →
    (fs.mapM (fun f => Prod.mk f.offset <$> sizeOf f.type) : Sem (List (Nat × Nat))).run P w = .ok pl w
  | [], pl, h => by simp [fieldsPlaces] at h; subst h; simp
  | f :: fs, pl, h => by
    simp only [fieldsPlaces] at h
    split at h
    · rename_i n l h1 h2
      simp at h; subst h
      simp [List.mapM_cons, run_size hT w h1, run_places hT h2]
    · cases h

theorem build_struct_ok (hT : TTok P T) {t : Nat} {fs : Array Field} {z : V} {pl : List (Nat × Nat)} {parts : Array (Nat × Operand)} {ps : List (Nat × Nat × Opd)}
    (hu : T.und t = some (.struct fs)) (hz : T.zero t = some z) (hp : fieldsPlaces T fs.toList = some pl) (hps : partsOf (fun i => pl[i]?) parts.toList = some ps) :
    PureOk P cx G ρ (.build t parts) (oBuild z.cells ps) := by
  intro oper ho Φ H w env a v R hE hv
  unfold oBuild at hv
  split at hv
  · rename_i l hl
    simp at hv; subst hv
    obtain ⟨zv, hz1, hz2⟩ := zero_ok hT hz w
    obtain ⟨o, ho1, ho2⟩ := fill_ok hE hps hl (hz2 ρ Φ).cells
    refine ⟨.agg o, ?_, .agg ho2⟩
    have hm : (fs.mapM (fun f => Prod.mk f.offset <$> sizeOf f.type) : Sem (Array (Nat × Nat))).run P w = .ok pl.toArray w := by
      rw [Array.mapM_eq_mapM_toList]
      simp [run_places (w := w) hT hp]
    have hmap : (parts.map fun x => (x.fst, a.eval x.snd)).toList = parts.toList.map fun x => (x.fst, a.eval x.snd) := by simp
    simp only [execOp, ho, Instr.build, Sem.run_bind, Sem.run_map, hz1, Result.andThen_ok, run_und hT w hu, bind_pure_comp, hm, hmap]
    rw [show (fun i => pl.toArray[i]?) = (fun i => pl[i]?) from by funext i; simp, ho1]
    simp
  · cases hv

theorem build_array_ok (hT : TTok P T) {t e len n : Nat} {z : V} {parts : Array (Nat × Operand)} {ps : List (Nat × Nat × Opd)}
    (hu : T.und t = some (.array len e)) (hz : T.zero t = some z) (hn : T.size e = some n) (hps : partsOf (fun i => some (i * n, n)) parts.toList = some ps) :
    PureOk P cx G ρ (.build t parts) (oBuild z.cells ps) := by
  intro oper ho Φ H w env a v R hE hv
  unfold oBuild at hv
  split at hv
  · rename_i l hl
    simp at hv; subst hv
    obtain ⟨zv, hz1, hz2⟩ := zero_ok hT hz w
    obtain ⟨o, ho1, ho2⟩ := fill_ok hE hps hl (hz2 ρ Φ).cells
    refine ⟨.agg o, ?_, .agg ho2⟩
    have hmap : (parts.map fun x => (x.fst, a.eval x.snd)).toList = parts.toList.map fun x => (x.fst, a.eval x.snd) := by simp
    simp only [execOp, ho, Instr.build, Sem.run_bind, Sem.run_map, bind_pure_comp, hz1, Result.andThen_ok, run_und hT w hu, run_size hT w hn, hmap, ho1]
    simp
  · cases hv

theorem litNat_ok {v : V} {x : Value} {n : Nat} (h : litNat v = some n) (r : VR ρ Φ v x) : ∃ k, x = .int k n := by
  unfold litNat at h
  split at h
  · simp at h; subst h; cases r; exact ⟨_, rfl⟩
  · cases h
theorem natOf_ok {env : Env} {a : Act} (hE : EnvR ρ Φ env a.tmps) {x : Operand} {y : Opd} (h : opd x = some y) {n : Nat} (hv : natOf env y = some n) : ∃ k, a.eval x = .int k n := by
  unfold natOf at hv
  split at hv
  · rename_i v he; exact litNat_ok hv (eval_ok hE h he)
  · cases hv

theorem un_ok {o : UnOp} {t : TypeId} {x : Operand} {y : Opd} (h : opd x = some y) : PureOk P cx G ρ (.unOp o t x) (oUn o y) := by
  intro oper ho Φ H w env a v R hE hv
  unfold oUn at hv
  split at hv
  · rename_i u he
    have r := eval_ok hE h he
    simp only [execOp, ho]
    generalize a.eval x = X at *
    unfold unV at hv
    split at hv
    · split at hv
      · simp at hv; subst hv; cases r
        exact ⟨_, by simp [Op.unary], .bool _⟩
      · cases hv
    · split at hv
      · simp at hv; subst hv; cases r
        rename_i k n _
        refine ⟨.int k (fwrap k (Int.sub 0 n)), ?_, VR.int k (.lit (fwrap k (Int.sub 0 n)))⟩
        rw [fwrap_eq]
        have : Int.sub 0 n = 0 - n := rfl
        simp [Op.unary, Op.intArith, IE.ev, this]
      · cases hv
    · cases hv
  · cases hv

theorem cvt_ok (hT : TTok P T) {s d : Nat} {k k' : IntKind} {x : Operand} {y : Opd} (h : opd x = some y) (hs : T.und s = some (.int k')) (hd : T.und d = some (.int k)) :
    PureOk P cx G ρ (.convert s d x) (oCvt k y) := by
  intro oper ho Φ H w env a v R hE hv
  unfold oCvt at hv
  split at hv
  · rename_i k0 n he
    have r := eval_ok hE h he
    simp only [execOp, ho]
    generalize a.eval x = X at *
    simp at hv; subst hv
    cases r
    refine ⟨.int k (fwrap k n), ?_, VR.int k (.lit (fwrap k n))⟩
    rw [fwrap_eq]
    simp [convert, run_und hT w hs, run_und hT w hd, Conv.intToInt, IE.ev]
  · cases hv

theorem mkFunc_ok {fn : Fn} {x y : Array Operand} {x' y' : List Opd} (hx : opds x.toList = some x') (hy : opds y.toList = some y') :
    PureOk P cx G ρ (.makeFunc fn x y) (oMkFunc fn x' y') := by
  intro oper ho Φ H w env a v R hE hv
  unfold oMkFunc at hv
  split at hv
  · cases hv
  · rename_i u hu
    split at hv
    · cases hv
    · rename_i u' hu'
      simp at hv; subst hv
      refine ⟨.func fn (x.map a.eval) (y.map a.eval), by simp [execOp, ho, Instr.makeFunc], .func ?_ ?_⟩
      · simpa using evals_ok hE hx hu
      · simpa using evals_ok hE hy hu'

theorem optNat_ok {env : Env} {a : Act} (hE : EnvR ρ Φ env a.tmps) {x : Option Operand} {y : Option Opd} (h : opdOpt x = some y) {n : Option Nat} (hv : optNat env y = some n) :
    (x = none ∧ n = none) ∨ ∃ z m k, x = some z ∧ n = some m ∧ a.eval z = .int k m := by
  cases x with
  | none => simp [opdOpt] at h; subst h; simp [optNat] at hv; subst hv; exact .inl ⟨rfl, rfl⟩
  | some z =>
    simp only [opdOpt, Option.map_eq_some_iff] at h
    obtain ⟨y', h1, rfl⟩ := h
    simp only [optNat] at hv
    split at hv
    · cases hv
    · rename_i v he
      split at hv
      · cases hv
      · rename_i m hm
        simp at hv; subst hv
        obtain ⟨k, hk⟩ := litNat_ok hm (eval_ok hE h1 he)
        exact .inr ⟨z, m, k, rfl, rfl, hk⟩

theorem run_bounds {isSlice : Bool} {len cap : Nat} {lo hi : Option Value} {l h : Nat}
    (hlo : (lo = none ∧ l = 0) ∨ ∃ k, lo = some (.int k l)) (hhi : (hi = none ∧ h = len) ∨ ∃ k, hi = some (.int k h)) (h1 : h ≤ cap) (h2 : l ≤ h) :
    (Instr.sliceBounds isSlice len cap lo hi none).run P w = .ok (l, h, cap) w := by
  have hb : ∀ (k : IntKind) (i y : Nat) (c : BoundsCode), i ≤ y → (Instr.sliceBound (.int k i) y c).run P w = .ok i w := by
    intro k i y c hi
    simp [Instr.sliceBound, asIntOf, hi]
  rcases hlo with ⟨rfl, rfl⟩ | ⟨k, rfl⟩ <;> rcases hhi with ⟨rfl, rfl⟩ | ⟨k', rfl⟩ <;> simp [Instr.sliceBounds, hb _ _ _ _ h1, hb _ _ _ _ h2]

theorem sliceS_ok (hT : TTok P T) {t e n : Nat} {x : Operand} {lo hi : Option Operand} {x' : Opd} {lo' hi' : Option Opd} (hu : T.und t = some (.slice e)) (hn : T.size e = some n)
    (hx : opd x = some x') (hl : opdOpt lo = some lo') (hh : opdOpt hi = some hi') : PureOk P cx G ρ (.slice t x lo hi none) (oSliceS n x' lo' hi') := by
  intro oper ho Φ H w env a v R hE hv
  unfold oSliceS at hv
  split at hv
  · cases hv
  · rename_i u he
    split at hv
    · cases hv
    · rename_i l hl1
      split at hv
      · cases hv
      · rename_i h hh1
        have r := eval_ok hE hx he
        have e1 := optNat_ok hE hl hl1
        have e2 := optNat_ok hE hh hh1
        have hlo : (lo.map a.eval = none ∧ l.getD 0 = 0) ∨ ∃ k, lo.map a.eval = some (.int k (l.getD 0)) := by
          rcases e1 with ⟨rfl, rfl⟩ | ⟨z, m, k, rfl, rfl, hk⟩
          · exact .inl ⟨rfl, rfl⟩
          · exact .inr ⟨k, by simp [hk]⟩
        have hhi : ∀ len, (hi.map a.eval = none ∧ h.getD len = len) ∨ ∃ k, hi.map a.eval = some (.int k (h.getD len)) := by
          intro len
          rcases e2 with ⟨rfl, rfl⟩ | ⟨z, m, k, rfl, rfl, hk⟩
          · exact .inl ⟨rfl, rfl⟩
          · exact .inr ⟨k, by simp [hk]⟩
        have hexec : execOp a.eval oper = (do pure (.value (← Instr.sliceAt t (a.eval x) (lo.map a.eval) (hi.map a.eval) none))) := by
          simp only [execOp, ho, Option.map_none]
        rw [hexec]
        generalize a.eval x = X at *
        generalize lo.map a.eval = LO at *
        generalize hi.map a.eval = HI at *
        unfold sliceSV at hv
        split at hv
        · rename_i b len sz
          simp only [nble, nbeq, ← Bool.decide_and, bif_ite] at hv
          split at hv
          · rename_i hc
            obtain ⟨c1, c2⟩ := hc
            split at hv
            · rename_i b'
              simp at hv; subst hv
              cases r
              have h0 : h.getD 0 = 0 := by omega
              have l0 : l.getD 0 = 0 := by omega
              have hb := run_bounds (P := P) (w := w) (isSlice := true) (len := 0) (cap := 0) hlo (hhi 0) (by omega) (by omega)
              refine ⟨.slice none 0 0, ?_, .nilslice 0⟩
              simp [Instr.sliceAt, Instr.slice, run_und hT w hu, hb, run_size hT w hn, h0, l0]
            · rename_i d
              by_cases c3 : n = sz
              case neg => rw [if_neg c3] at hv; cases hv
              rw [if_pos c3] at hv
              subst c3
              simp at hv; subst hv
              cases r with
              | @slice _ b _ c _ L hab hL hlen hroom =>
                have hb := run_bounds (P := P) (w := w) (isSlice := true) (len := len) (cap := c) hlo (hhi len) (by omega) c2
                refine ⟨.slice (if c = l.getD 0 then some b else some (b.add (l.getD 0 * n))) (h.getD len - l.getD 0) (c - l.getD 0), ?_, ?_⟩
                · simp [Instr.sliceAt, Instr.slice, run_und hT w hu, hb, run_size hT w hn]
                · by_cases hcl : c = l.getD 0
                  · rw [if_pos hcl]
                    have : h.getD len - l.getD 0 = 0 := by omega
                    rw [this, show c - l.getD 0 = 0 by omega]
                    exact .slice0 _ _ _
                  · rw [if_neg hcl]
                    have hadd := hab.add (l.getD 0 * n)
                    have hboff : (b.add (l.getD 0 * n)).off = b.off + l.getD 0 * n := by
                      unfold Addr.add; split
                      · rename_i hz; rw [hz]; rfl
                      · rfl
                    refine .slice hadd hL (by omega) ?_
                    rw [hboff]
                    have : l.getD 0 * n + (c - l.getD 0) * n = c * n := by rw [← Nat.add_mul]; congr 1; omega
                    omega
              | slice0 _ b _ =>
                have h0 : h.getD 0 = 0 := by omega
                have l0 : l.getD 0 = 0 := by omega
                have hb := run_bounds (P := P) (w := w) (isSlice := true) (len := 0) (cap := 0) hlo (hhi 0) (by omega) (by omega)
                refine ⟨.slice (some b) 0 0, ?_, ?_⟩
                · simp [Instr.sliceAt, Instr.slice, run_und hT w hu, hb, run_size hT w hn, h0, l0]
                · rw [h0, l0]; exact .slice0 _ _ _
          · cases hv
        · cases hv

theorem extract_map (s : ByteArray) (l h : Nat) : (s.extract l h).data.toList.map UInt8.toNat = ((s.data.toList.map UInt8.toNat).take h).drop l := by
  rw [ByteArray.data_extract, Array.toList_extract]
  simp only [List.extract_eq_take_drop, List.map_drop, List.map_take, List.drop_take]
theorem sliceT_ok (hT : TTok P T) {t : Nat} {x : Operand} {lo hi : Option Operand} {x' : Opd} {lo' hi' : Option Opd} (hu : T.und t = some .string)
    (hx : opd x = some x') (hl : opdOpt lo = some lo') (hh : opdOpt hi = some hi') : PureOk P cx G ρ (.slice t x lo hi none) (oSliceT x' lo' hi') := by
  intro oper ho Φ H w env a v R hE hv
  unfold oSliceT at hv
  split at hv
  · cases hv
  · rename_i u he
    split at hv
    · cases hv
    · rename_i l hl1
      split at hv
      · cases hv
      · rename_i h hh1
        have r := eval_ok hE hx he
        have e1 := optNat_ok hE hl hl1
        have e2 := optNat_ok hE hh hh1
        have hlo : (lo.map a.eval = none ∧ l.getD 0 = 0) ∨ ∃ k, lo.map a.eval = some (.int k (l.getD 0)) := by
          rcases e1 with ⟨rfl, rfl⟩ | ⟨z, m, k, rfl, rfl, hk⟩
          · exact .inl ⟨rfl, rfl⟩
          · exact .inr ⟨k, by simp [hk]⟩
        have hhi : ∀ len, (hi.map a.eval = none ∧ h.getD len = len) ∨ ∃ k, hi.map a.eval = some (.int k (h.getD len)) := by
          intro len
          rcases e2 with ⟨rfl, rfl⟩ | ⟨z, m, k, rfl, rfl, hk⟩
          · exact .inl ⟨rfl, rfl⟩
          · exact .inr ⟨k, by simp [hk]⟩
        have hexec : execOp a.eval oper = (do pure (.value (← Instr.sliceAt t (a.eval x) (lo.map a.eval) (hi.map a.eval) none))) := by
          simp only [execOp, ho, Option.map_none]
        rw [hexec]
        generalize a.eval x = X at *
        generalize lo.map a.eval = LO at *
        generalize hi.map a.eval = HI at *
        unfold sliceTV at hv
        split at hv
        · cases r with
          | str s =>
            simp only [nble, ← Bool.decide_and, bif_ite, List.length_map, Array.length_toList] at hv
            have hsz : s.data.size = s.size := rfl
            rw [hsz] at hv
            split at hv
            · rename_i hc
              simp only [Option.some.injEq] at hv
              have hb := run_bounds (P := P) (w := w) (isSlice := false) (len := s.size) (cap := s.size) hlo (hhi s.size) hc.1 hc.2
              refine ⟨.string (s.extract (l.getD 0) (h.getD s.size)), ?_, ?_⟩
              · simp [Instr.sliceAt, Instr.slice, run_und hT w hu, hb]
              · rw [← hv, ← extract_map]; exact .str _
            · cases hv
        · cases hv

theorem run_fieldPlace (hT : TTok P T) {f : Field} {n : Nat} (hn : T.size f.type = some n) (h0 : n ≠ 0) (b : Addr) : (fieldPlace b f).run P w = .ok (b.add f.offset) w := by
  simp [fieldPlace, run_size hT w hn, h0]
theorem fieldAddr_ok (hT : TTok P T) {t i n : Nat} {fs : Array Field} {f : Field} {x : Operand} {y : Opd} (hu : T.und t = some (.struct fs)) (hf : fs[i]? = some f) (hn : T.size f.type = some n) (h0 : n ≠ 0)
    (h : opd x = some y) : PureOk P cx G ρ (.fieldAddr t x i) (oFieldAddr f.offset y) := by
  intro oper ho Φ H w env a v R hE hv
  unfold oFieldAddr at hv
  split at hv
  · rename_i d he
    have r := eval_ok hE h he
    simp only [execOp, ho]
    generalize a.eval x = X at *
    simp at hv; subst hv
    cases r with
    | ptr hab => exact ⟨_, by simp [Instr.fieldAt, run_und hT w hu, hf, Instr.sureAddr, run_fieldPlace hT hn h0], .ptr (hab.add _)⟩
  · rename_i g o he
    have r := eval_ok hE h he
    simp only [execOp, ho]
    generalize a.eval x = X at *
    simp at hv; subst hv
    cases r
    refine ⟨.pointer (some ⟨g, o + f.offset, none⟩), ?_, .gptr _ _⟩
    have : (⟨g, o, none⟩ : Addr).add f.offset = ⟨g, o + f.offset, none⟩ := by
      unfold Addr.add; split
      · rename_i hz; rw [hz]; rfl
      · rfl
    simp [Instr.fieldAt, run_und hT w hu, hf, Instr.sureAddr, run_fieldPlace hT hn h0, this]
  · cases hv
theorem field_ok (hT : TTok P T) {t i n : Nat} {fs : Array Field} {f : Field} {b : Bool} {x : Operand} {y : Opd} (hu : T.und t = some (.struct fs)) (hf : fs[i]? = some f) (hn : T.size f.type = some n) (hb : T.agg f.type = some b)
    (h : opd x = some y) : PureOk P cx G ρ (.field t x i) (oField b f.offset n y) := by
  intro oper ho Φ H w env a v R hE hv
  unfold oField at hv
  split at hv
  · rename_i cs he
    have r := eval_ok hE h he
    simp only [execOp, ho]
    generalize a.eval x = X at *
    cases r with
    | @agg _ xs hs =>
      cases b with
      | true =>
        simp at hv; subst hv
        refine ⟨.agg (xs.extract f.offset (f.offset + n)), ?_, .agg ?_⟩
        · simp [Instr.field, run_und hT w hu, hf, asAgg, part, run_isAgg hT w hb, run_size hT w hn]
        · have := (hs.drop f.offset).take n
          rw [Array.toList_extract, List.extract_eq_take_drop]
          simpa using this
      | false =>
        simp only [cond_false] at hv
        obtain ⟨u, h1, h2⟩ := hs.get hv
        rw [Array.getElem?_toList] at h1
        exact ⟨u, by simp [Instr.field, run_und hT w hu, hf, asAgg, part, run_isAgg hT w hb, h1], h2⟩
  · cases hv

theorem indexAddr_slice_ok (hT : TTok P T) {t e n : Nat} {x i : Operand} {x' i' : Opd} (hu : T.und t = some (.slice e)) (hn : T.size e = some n) (hx : opd x = some x') (hi : opd i = some i') :
    PureOk P cx G ρ (.indexAddr t x i) (oIndexAddr none n x' i') := by
  intro oper ho Φ H w env a v R hE hv
  unfold oIndexAddr at hv
  split at hv
  · cases hv
  · rename_i m hm
    obtain ⟨k, hk⟩ := natOf_ok hE hi hm
    split at hv
    · cases hv
    · rename_i u he
      have r := eval_ok hE hx he
      simp only [execOp, ho, hk]
      generalize a.eval x = X at *
      unfold indexAddrV at hv
      split at hv
      · rename_i d len sz
        simp only [nblt, nbeq, ← Bool.decide_and, bif_ite] at hv
        split at hv
        · rename_i hc
          simp at hv; subst hv
          cases r with
          | slice hab hL hlen hroom => exact ⟨_, by simp [Instr.indexAt, asIntOf, run_und hT w hu, run_size hT w hn, hc.1], .ptr (hab.add _)⟩
          | slice0 => omega
        · cases hv
      all_goals (first | (cases hv; done) | (simp at hv; done))
theorem indexAddr_array_ok (hT : TTok P T) {t e n L : Nat} {x i : Operand} {x' i' : Opd} (hu : T.und t = some (.array L e)) (hn : T.size e = some n) (hx : opd x = some x') (hi : opd i = some i') :
    PureOk P cx G ρ (.indexAddr t x i) (oIndexAddr (some L) n x' i') := by
  intro oper ho Φ H w env a v R hE hv
  unfold oIndexAddr at hv
  split at hv
  · cases hv
  · rename_i m hm
    obtain ⟨k, hk⟩ := natOf_ok hE hi hm
    split at hv
    · cases hv
    · rename_i u he
      have r := eval_ok hE hx he
      simp only [execOp, ho, hk]
      generalize a.eval x = X at *
      unfold indexAddrV at hv
      split at hv
      · simp at hv
      · rename_i d
        simp only [nblt, bif_ite] at hv
        split at hv
        · rename_i hc
          simp at hv; subst hv
          cases r with
          | ptr hab => exact ⟨_, by simp [Instr.indexAt, Instr.sureAddr, asIntOf, run_und hT w hu, run_size hT w hn, hc], .ptr (hab.add _)⟩
        · cases hv
      · rename_i g o
        simp only [nblt, bif_ite] at hv
        split at hv
        · rename_i hc
          simp at hv; subst hv
          cases r
          have : (⟨g, o, none⟩ : Addr).add (m * n) = ⟨g, o + m * n, none⟩ := by
            unfold Addr.add; split
            · rename_i hz; rw [hz]; rfl
            · rfl
          exact ⟨_, by simp [Instr.indexAt, Instr.sureAddr, asIntOf, run_und hT w hu, run_size hT w hn, hc, this], .gptr _ _⟩
        · cases hv
      · cases hv
theorem indexT_ok (hT : TTok P T) {t : Nat} {x i : Operand} {x' i' : Opd} (hu : T.und t = some .string) (hx : opd x = some x') (hi : opd i = some i') :
    PureOk P cx G ρ (.index t x i) (oIndexT x' i') := by
  intro oper ho Φ H w env a v R hE hv
  unfold oIndexT at hv
  split at hv
  · cases hv
  · rename_i m hm
    obtain ⟨k, hk⟩ := natOf_ok hE hi hm
    split at hv
    · cases hv
    · rename_i u he
      have r := eval_ok hE hx he
      simp only [execOp, ho, hk]
      generalize a.eval x = X at *
      unfold indexTV at hv
      split at hv
      · cases r with
        | str s =>
          split at hv
          · rename_i b hb
            simp at hv; subst hv
            simp only [List.getElem?_map, Option.map_eq_some_iff] at hb
            obtain ⟨c, hc1, hc2⟩ := hb
            subst hc2
            have hget : s[m]? = some c := by
              rw [Array.getElem?_toList] at hc1
              have hlt := (Array.getElem?_eq_some_iff.1 hc1).1
              have hlt' : m < s.size := hlt
              rw [getElem?_pos s m hlt']
              rw [Array.getElem?_eq_getElem hlt] at hc1
              exact hc1
            exact ⟨.int .u8 c.toNat, by simp [Instr.index, asIntOf, run_und hT w hu, hget], VR.int .u8 (.lit (.ofNat c.toNat))⟩
          · cases hv
      · cases hv
end Go.Sk
