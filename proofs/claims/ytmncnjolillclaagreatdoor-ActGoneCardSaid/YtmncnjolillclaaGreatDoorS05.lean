/-
  SK, PART L. For drawn regions: the trace of our order, restricted temporaries, what may lie pending.
-/
import Derived.Test.YtmncnjolillclaaGreatDoorS04
namespace Go.Sk
variable {P : Program} {cx : Cx} {G : Nat} {ρ : Nat → Int} {T : TT} {Φ : Emb} {H : Heap} {w : World}

/-! ### The trace -/
structure Trace (rec : Rec) (L : List SOper) (E : Nat → Env) (Hp : Nat → Heap) (K : Nat → Nat) (Gs : Nat → Heap) : Prop where
  step : ∀ p d, L[p]? = some d →
    (wanted (E p) d.guard = some false ∧ E (p + 1) = putDst (E p) d.dst (.tuple []) ∧ Hp (p + 1) = Hp p) ∨
    (wanted (E p) d.guard = some true ∧ ∃ v, runOp rec (E p) (Hp p) (Gs (K p)) d.op = some (v, Hp (p + 1)) ∧ E (p + 1) = putDst (E p) d.dst v ∧ freshOk (E p) (Hp p) (Gs (K p)) d.op = true)
  k : ∀ p d, L[p]? = some d → K (p + 1) = K p + (if d.op.isEff then 1 else 0)
  gs : ∀ p d, L[p]? = some d → d.op.isEff = true → Gs (K p + 1) = Hp (p + 1)

def listTo (Gs : Nat → Heap) : Nat → List Heap
  | 0 => [Gs 0]
  | k + 1 => Gs (k + 1) :: listTo Gs k
theorem listTo_shift (Gs : Nat → Heap) (h : Heap) : ∀ k, listTo (fun k => match k with | 0 => h | k + 1 => Gs k) (k + 1) = listTo Gs k ++ [h]
  | 0 => rfl
  | k + 1 => by
    rw [listTo, listTo_shift Gs h k]
    rfl
theorem listTo_rev (Gs : Nat → Heap) : ∀ k j, j ≤ k → (listTo Gs k).reverse[j]? = some (Gs j)
  | 0, j, h => by obtain rfl : j = 0 := by omega
                  rfl
  | k + 1, j, h => by
    have hlen : ∀ k, (listTo Gs k).length = k + 1 := by
      intro k
      induction k with
      | zero => rfl
      | succ k ih => simp [listTo, ih]
    rw [listTo, List.reverse_cons]
    by_cases hj : j = k + 1
    · subst hj
      rw [List.getElem?_append_right (by simp [hlen])]
      simp [hlen]
    · rw [List.getElem?_append_left (by simp [hlen]; omega)]
      exact listTo_rev Gs k j (by omega)

theorem trace_of {rec : Rec} : ∀ (L : List SOper) {env env' : Env} {h h' hr : Heap} {hs out : List Heap}, runDraw rec L env h hr hs = some (env', h', out) →
    ∃ E Hp K Gs, Trace rec L E Hp K Gs ∧ E 0 = env ∧ Hp 0 = h ∧ Gs 0 = hr ∧ K 0 = 0 ∧ E L.length = env' ∧ Hp L.length = h' ∧ out = listTo Gs (K L.length) ++ hs := by
  intro L
  induction L with
  | nil =>
    intro env env' h h' hr hs out hv
    simp [runDraw] at hv
    obtain ⟨rfl, rfl, rfl⟩ := hv
    exact ⟨fun _ => env, fun _ => h, fun _ => 0, fun _ => hr, ⟨fun p d hd => by simp at hd, fun p d hd => by simp at hd, fun p d hd => by simp at hd⟩, rfl, rfl, rfl, rfl, rfl, rfl, rfl⟩
  | cons d L ih =>
    intro env env' h h' hr hs out hv
    have key : ∀ (env1 : Env) (h1 : Heap),
        ((wanted env d.guard = some false ∧ env1 = putDst env d.dst (.tuple []) ∧ h1 = h) ∨ (wanted env d.guard = some true ∧ ∃ v, runOp rec env h hr d.op = some (v, h1) ∧ env1 = putDst env d.dst v ∧ freshOk env h hr d.op = true)) →
        (bif d.op.isEff then runDraw rec L env1 h1 h1 (hr :: hs) else runDraw rec L env1 h1 hr hs) = some (env', h', out) →
        ∃ E Hp K Gs, Trace rec (d :: L) E Hp K Gs ∧ E 0 = env ∧ Hp 0 = h ∧ Gs 0 = hr ∧ K 0 = 0 ∧ E (d :: L).length = env' ∧ Hp (d :: L).length = h' ∧ out = listTo Gs (K (d :: L).length) ++ hs := by
      intro env1 h1 hst hrun
      cases he : d.op.isEff with
      | true =>
        rw [he] at hrun
        simp only [cond_true] at hrun
        obtain ⟨E, Hp, K, Gs, ht, e1, e2, e3, e4, e5, e6, e7⟩ := ih hrun
        refine ⟨fun p => match p with | 0 => env | p + 1 => E p, fun p => match p with | 0 => h | p + 1 => Hp p, fun p => match p with | 0 => 0 | p + 1 => K p + 1,
          fun k => match k with | 0 => hr | k + 1 => Gs k, ⟨?_, ?_, ?_⟩, rfl, rfl, rfl, rfl, e5, e6, ?_⟩
        · intro p d' hd
          cases p with
          | zero => simp at hd; subst hd; simp only [e1, e2]; exact hst
          | succ p => simp at hd; exact ht.step p d' hd
        · intro p d' hd
          cases p with
          | zero => simp at hd; subst hd; simp [he, e4]
          | succ p => simp at hd; have := ht.k p d' hd; simp only [this]; omega
        · intro p d' hd h2
          cases p with
          | zero => simp at hd; subst hd; simp only [e3, e2]
          | succ p => simp at hd; exact ht.gs p d' hd h2
        · rw [e7, List.length_cons]
          simp only
          rw [listTo_shift]
          simp
      | false =>
        rw [he] at hrun
        simp only [cond_false] at hrun
        obtain ⟨E, Hp, K, Gs, ht, e1, e2, e3, e4, e5, e6, e7⟩ := ih hrun
        refine ⟨fun p => match p with | 0 => env | p + 1 => E p, fun p => match p with | 0 => h | p + 1 => Hp p, fun p => match p with | 0 => 0 | p + 1 => K p,
          Gs, ⟨?_, ?_, ?_⟩, rfl, rfl, e3, rfl, e5, e6, ?_⟩
        · intro p d' hd
          cases p with
          | zero => simp at hd; subst hd; simp only [e1, e2, e3]; exact hst
          | succ p => simp at hd; exact ht.step p d' hd
        · intro p d' hd
          cases p with
          | zero => simp at hd; subst hd; simp [he, e4]
          | succ p => simp at hd; exact ht.k p d' hd
        · intro p d' hd h2
          cases p with
          | zero => simp at hd; subst hd; rw [he] at h2; cases h2
          | succ p => simp at hd; exact ht.gs p d' hd h2
        · rw [e7, List.length_cons]
    simp only [runDraw] at hv
    split at hv
    · cases hv
    · rename_i hw; exact key _ _ (.inl ⟨hw, rfl, rfl⟩) hv
    · rename_i hw
      split at hv
      · cases hv
      · rename_i v h1 hr1
        cases hfo : freshOk env h hr d.op with
        | false => rw [hfo] at hr1; cases hr1
        | true =>
          rw [hfo] at hr1
          exact key _ _ (.inr ⟨hw, v, hr1, rfl, hfo⟩) hv

/-! ### Temporaries that an operation reads -/
noncomputable def rst (env : Env) : List Nat → Env
  | [] => .nil
  | t :: l => (rst env l).put t (env.get t)
theorem rst_get (env : Env) (t : Nat) : ∀ l, (rst env l).get t = if t ∈ l then env.get t else none
  | [] => by simp [rst, Tr.get_nil]
  | u :: l => by
    rw [rst, Tr.get_put, rst_get env t l]
    by_cases h : t = u
    · subst h; simp
    · simp [h]
/-- An operation looks at no other temporaries. -/
def SkCongr (sk : SK) (l : List Nat) : Prop := ∀ env env' : Env, (∀ t ∈ l, env.get t = env'.get t) →
  match sk with
  | .pure r => r env = r env'
  | .read r => ∀ h, r env h = r env' h
  | .alloc r => ∀ n, r env n = r env' n
  | .eff r => ∀ h, r env h = r env' h
  | .fresh x r => (∀ h, r env h = r env' h) ∧ eval env x = eval env' x
  | .call r => r env = r env'
theorem runOp_congr {rec : Rec} {sk : SK} {l : List Nat} (hc : SkCongr sk l) {env env' : Env} (h : ∀ t ∈ l, env.get t = env'.get t) (H Hr : Heap) :
    runOp rec env H Hr sk = runOp rec env' H Hr sk := by
  have := hc env env' h
  cases sk <;> simp only at this <;> simp only [runOp, this]
theorem runOp_eff {rec : Rec} {sk : SK} (h : sk.isEff = true) (env : Env) (H Hr Hr' : Heap) : runOp rec env H Hr sk = runOp rec env H Hr' sk := by
  cases sk <;> simp [SK.isEff] at h <;> rfl
theorem wanted_congr {env env' : Env} {g : Option (Nat × Bool)} (h : ∀ t b, g = some (t, b) → env.get t = env'.get t) : wanted env g = wanted env' g := by
  cases g with
  | none => rfl
  | some g => obtain ⟨t, b⟩ := g; simp only [wanted, h t b rfl]

theorem putDst_get (env : Env) (d : Option Nat) (v : V) (t : Nat) : (putDst env d v).get t = if d = some t then some v else env.get t := by
  cases d with
  | none => simp [putDst]
  | some d =>
    simp only [putDst, Tr.get_put, Option.some.injEq]
    by_cases h : t = d
    · subst h; simp
    · rw [if_neg h, if_neg (fun e => h e.symm)]

mutual
theorem veq_eq : ∀ {u v : V}, veq u v = true → u = v := by
  intro u v h
  cases u <;> cases v <;> simp only [veq, Bool.and_eq_true, beq_iff_eq, decide_eq_true_eq, nbeq, Bool.false_eq_true, strEq_eq] at h
  case bool => rw [h]
  case int => rw [h.1, h.2]
  case str => rw [h]
  case ptr => rw [h]
  case gptr => rw [h.1, h.2]
  case slice => rw [h.1.1, h.1.2, h.2]
  case map => rw [h]
  case iter => rw [h]
  case func => rw [h.1.1, veqs_eq h.1.2, veqs_eq h.2]
  case nilFunc => rfl
  case iface => rw [h.1, veq_eq h.2]
  case nilIface => rfl
  case agg => rw [veqs_eq h]
  case tuple => rw [veqs_eq h]
theorem veqs_eq : ∀ {u v : List V}, veqs u v = true → u = v := by
  intro u v h
  cases u with
  | nil => cases v with
    | nil => rfl
    | cons => simp [veqs] at h
  | cons a x => cases v with
    | nil => simp [veqs] at h
    | cons b y => simp only [veqs, Bool.and_eq_true] at h; rw [veq_eq h.1, veqs_eq h.2]
end

/-! ### What may lie pending -/
/-- As Ext; families from 'n' on alone are bound to be as they were. -/
structure ExtN (n : Nat) (Φ : Emb) (H : Heap) (w : World) (Φ' : Emb) (H' : Heap) (w' : World) : Prop where
  same : Same w w'
  le : Φ.le Φ'
  far : ∀ f, n ≤ f → Φ' f = Φ f
  frame : ∀ b, b < w.heap.size → ¬ Owned Φ H b → w'.heap[b]? = w.heap[b]?
  grow : w.heap.size ≤ w'.heap.size
  new : ∀ f e l, Φ' f e = some l → Φ f e = none → w.heap.size ≤ l.blk ∨ ∃ e0, Φ f e0 = some l ∧ H.objs.get f ≠ none
  next : H.next ≤ H'.next
  objs : ∀ f, H'.objs.get f ≠ none → H.objs.get f ≠ none ∨ (H.next ≤ f ∧ f < H'.next)

theorem ExtN.refl (n : Nat) (Φ : Emb) (H : Heap) (w : World) : ExtN n Φ H w Φ H w :=
  let x := Ext.refl Φ H w
  ⟨x.same, x.le, fun _ _ => rfl, x.frame, x.grow, x.new, x.next, x.objs⟩
theorem ExtN.ext {Φ Φ' : Emb} {H H' : Heap} {w w' : World} (x : ExtN H'.next Φ H w Φ' H' w') : Ext Φ H w Φ' H' w' := ⟨x.same, x.le, x.far, x.frame, x.grow, x.new, x.next, x.objs⟩

theorem ExtN.owned {n : Nat} {Φ Φ' : Emb} {H H' : Heap} {w w' : World} (x : ExtN n Φ H w Φ' H' w') (hf : Free Φ H.next H'.next) {b : Nat} (hb : b < w.heap.size)
    (h : ¬ Owned Φ H b) : ¬ Owned Φ' H' b := by
  rintro ⟨f, e, l, ho, hl, rfl⟩
  cases hΦ : Φ f e with
  | some l0 =>
    have := x.le _ _ _ hΦ
    rw [this] at hl
    obtain rfl : l0 = l := by simpa using hl
    rcases x.objs f ho with h1 | ⟨h1, h2⟩
    · exact h ⟨f, e, l0, h1, hΦ, rfl⟩
    · rw [hf f e h1 h2] at hΦ; cases hΦ
  | none =>
    rcases x.new f e l hl hΦ with h1 | ⟨e0, h1, h2⟩
    · omega
    · exact h ⟨f, e0, l, h2, h1, rfl⟩

theorem ExtN.trans {n : Nat} {Φ Φ₁ Φ₂ : Emb} {H H₁ H₂ : Heap} {w w₁ w₂ : World} (hf : Free Φ H.next n) (h1n : H₁.next ≤ n) (h2n : H₂.next ≤ n) (x : ExtN n Φ H w Φ₁ H₁ w₁) (y : Ext Φ₁ H₁ w₁ Φ₂ H₂ w₂) :
    ExtN n Φ H w Φ₂ H₂ w₂ where
  same := x.same.trans y.same
  le := fun f e l h => y.le _ _ _ (x.le _ _ _ h)
  far := fun f h => (y.far f (Nat.le_trans h2n h)).trans (x.far f h)
  frame := fun b hb ho => (y.frame b (Nat.lt_of_lt_of_le hb x.grow) (x.owned (fun f e a b => hf f e a (Nat.lt_of_lt_of_le b h1n)) hb ho)).trans (x.frame b hb ho)
  grow := Nat.le_trans x.grow y.grow
  new := by
    intro f e l h h'
    cases h1 : Φ₁ f e with
    | some l1 =>
      have := y.le _ _ _ h1
      rw [this] at h
      obtain rfl : l1 = l := by simpa using h
      exact x.new f e l1 h1 h'
    | none =>
      rcases y.new f e l h h1 with h2 | ⟨e0, h2, h3⟩
      · exact .inl (Nat.le_trans x.grow h2)
      · cases h4 : Φ f e0 with
        | some l4 =>
          have := x.le _ _ _ h4
          rw [this] at h2
          obtain rfl : l4 = l := by simpa using h2
          rcases x.objs f h3 with h5 | ⟨h5, h6⟩
          · exact .inr ⟨e0, h4, h5⟩
          · rw [hf f e0 h5 (Nat.lt_of_lt_of_le h6 h1n)] at h4; cases h4
        | none => exact x.new f e0 l h2 h4
  next := Nat.le_trans x.next y.next
  objs := by
    intro f h
    rcases y.objs f h with h1 | ⟨h1, h2⟩
    · rcases x.objs f h1 with h3 | ⟨h3, h4⟩
      · exact .inl h3
      · exact .inr ⟨h3, Nat.lt_of_lt_of_le h4 y.next⟩
    · exact .inr ⟨Nat.le_trans x.next h1, h2⟩

/-- A pending object is taken into the heap. -/
theorem Rel.absorb (R : Rel cx G ρ Φ H w) {ob : Obj} (ho : ObjR ρ Φ w H.next ob) : Rel cx G ρ Φ (H.new ob) w where
  obj := by
    intro f o h
    simp only [Heap.new, Tr.get_put] at h
    by_cases hf : f = H.next
    · subst hf; rw [if_pos rfl] at h; obtain rfl : ob = o := by simpa using h
      exact ho
    · rw [if_neg hf] at h; exact R.obj f o h
  inj := R.inj
  dom := R.dom
  glob := R.glob
  asm := R.asm
  old := by
    intro f o h
    simp only [Heap.new, Tr.get_put] at h ⊢
    by_cases hf : f = H.next
    · omega
    · rw [if_neg hf] at h; have := R.old f o h; omega
  sz := R.sz
  kind := R.kind
theorem ExtN.absorb {n : Nat} {Φ₀ : Emb} {H₀ : Heap} {w₀ : World} (x : ExtN n Φ₀ H₀ w₀ Φ H w) (ob : Obj) : ExtN n Φ₀ H₀ w₀ Φ (H.new ob) w where
  same := x.same
  le := x.le
  far := x.far
  frame := x.frame
  grow := x.grow
  new := x.new
  next := Nat.le_trans x.next (by simp [Heap.new])
  objs := by
    intro f h
    simp only [Heap.new, Tr.get_put] at h ⊢
    by_cases hf : f = H.next
    · have := x.next; exact .inr ⟨by omega, by omega⟩
    · rw [if_neg hf] at h
      rcases x.objs f h with h1 | ⟨h1, h2⟩
      · exact .inl h1
      · exact .inr ⟨h1, by omega⟩

/-- An object is made in the world, ahead of its turn in the heap. -/
theorem Rel.pend (R : Rel cx G ρ Φ H w) {n : Nat} (hn : H.next ≤ n) {ob : Obj} {ro : Go.Obj} {l : Loc} (hfree : ∀ e, Φ n e = none) (hblk : l.blk = w.heap.size)
    (ho : ObjR ρ (Φ.set n 0 l) { w with heap := w.heap.push ro } n ob) : Rel cx G ρ (Φ.set n 0 l) H { w with heap := w.heap.push ro } := by
  let H' : Heap := { H with next := n }
  have R' : Rel cx G ρ Φ H' w := ⟨R.obj, R.inj, R.dom, R.glob, R.asm, fun f o h => Nat.lt_of_lt_of_le (R.old f o h) hn, R.sz, R.kind⟩
  obtain ⟨k, _⟩ := R'.new (o := ob) (ro := ro) (l := l) hfree hblk ho
  refine ⟨fun f o h => k.obj f o ?_, k.inj, k.dom, k.glob, k.asm, R.old, k.sz, k.kind⟩
  have := R.old f o h
  simp only [Heap.new, Tr.get_put]
  rw [if_neg (by show f ≠ n; omega)]
  exact h
theorem ExtN.pend {N : Nat} {Φ₀ : Emb} {H₀ : Heap} {w₀ : World} (x : ExtN N Φ₀ H₀ w₀ Φ H w) {n : Nat} (hN : n < N) {ro : Go.Obj} {l : Loc} (hfree : ∀ e, Φ n e = none) (hblk : l.blk = w.heap.size) (hro : Soft (some ro)) :
    ExtN N Φ₀ H₀ w₀ (Φ.set n 0 l) H { w with heap := w.heap.push ro } where
  same := x.same.trans (.of ⟨rfl, rfl, rfl, Nat.le_refl _⟩ (by simp) fun b => by
    simp only [Array.getElem?_push]
    by_cases hb : b = w.heap.size
    · rw [if_pos hb, hb]; exact .inr ⟨hro, fun c t fr h => by simp at h⟩
    · rw [if_neg hb]; exact .inl rfl)
  le := fun f e l' h => Emb.le_set l (hfree 0) f e l' (x.le f e l' h)
  far := fun f hf => by
    rw [← x.far f hf]
    funext e
    exact Emb.set_other _ _ _ _ (fun h => by omega)
  frame := fun b hb h => by
    rw [← x.frame b hb h]
    simp only [Array.getElem?_push]
    rw [if_neg (by have := x.grow; omega)]
  grow := by have := x.grow; simp; omega
  new := by
    intro f e l' h h'
    by_cases hf : f = n ∧ e = 0
    · obtain ⟨rfl, rfl⟩ := hf
      rw [Emb.set_same] at h
      obtain rfl : l = l' := by simpa using h
      exact .inl (by rw [hblk]; exact x.grow)
    · rw [Emb.set_other _ _ _ _ hf] at h
      exact x.new f e l' h h'
  next := x.next
  objs := x.objs
end Go.Sk

/-
  SK, PART M. A drawn region: whatever order is drawn, what our order makes is made.
-/
namespace Go.Sk
variable {D : List Deferred} {P : Program} {cx : Cx} {G : Nat} {ρ : Nat → Int} {T : TT}

def Lst (listed : Array Bool) (i : Nat) : Prop := listed.getD i false = true
theorem unl {listed : Array Bool} {j : Nat} (h : listed.getD j true = false) : ¬ Lst listed j := by
  unfold Lst
  rcases Nat.lt_or_ge j listed.size with h1 | h1
  · simp [h1] at h ⊢; exact h
  · simp [Array.getElem?_eq_none h1] at h
theorem lst_set {listed : Array Bool} {i j : Nat} (hi : i < listed.size) : Lst (listed.setIfInBounds i true) j ↔ j = i ∨ Lst listed j := by
  unfold Lst
  by_cases h : i = j
  · subst h; simp [hi]
  · rw [getD_set_ne false h]
    constructor
    · exact .inr
    · rintro (rfl | h1)
      · exact absurd rfl h
      · exact h1

theorem inL_iff {d : Option Nat} {l : List Nat} {t : Nat} (hd : d = some t) : inL d l = true ↔ t ∈ l := by
  subst hd
  simp only [inL, List.any_eq_true, nbeq, decide_eq_true_eq]
  constructor
  · rintro ⟨x, h, rfl⟩; exact h
  · intro h; exact ⟨t, h, rfl⟩

structure Pair (a b : SOper) : Prop where
  no : a.no ≠ b.no
  fore : a.deps.testBit b.no = false
  rd : ∀ t, a.dst = some t → t ∈ b.rd → b.deps.testBit a.no = true
  wr : ∀ t, b.dst = some t → t ∈ a.rd → b.deps.testBit a.no = true
  ww : ∀ t, a.dst = some t → b.dst = some t → b.deps.testBit a.no = true
  ee : a.op.isEff = true → b.op.isEff = true → b.deps.testBit a.no = true
  ae : a.op.isAlloc = true → b.op.isEff = true → b.deps.testBit a.no = true
  fe : a.op.isFresh = true → b.op.isEff = true → b.deps.testBit a.no = true
theorem pairOk_pair {a b : SOper} (h : pairOk a b = true) : Pair a b := by
  simp only [pairOk, Bool.and_eq_true, Bool.or_eq_true, Bool.not_eq_true', nbeq, decide_eq_false_iff_not] at h
  obtain ⟨⟨⟨h1, h2⟩, h3⟩, _⟩ := h
  refine ⟨h2, h1, ?_, ?_, ?_, ?_, ?_, ?_⟩
  · intro t ha hb
    rcases h3 with h3 | ⟨⟨⟨h3, _⟩, _⟩, _⟩
    · exact h3
    · simp only [clash, (inL_iff ha).2 hb, Bool.true_or] at h3; cases h3
  · intro t ha hb
    rcases h3 with h3 | ⟨⟨⟨h3, _⟩, _⟩, _⟩
    · exact h3
    · simp only [clash, (inL_iff ha).2 hb, Bool.true_or, Bool.or_true] at h3; cases h3
  · intro t ha hb
    rcases h3 with h3 | ⟨⟨⟨h3, _⟩, _⟩, _⟩
    · exact h3
    · simp [clash, ha, hb, nbeq] at h3
  · intro ha hb
    rcases h3 with h3 | ⟨⟨⟨_, h3⟩, _⟩, _⟩
    · exact h3
    · rw [ha, hb] at h3; cases h3
  · intro ha hb
    rcases h3 with h3 | ⟨⟨⟨_, _⟩, h3⟩, _⟩
    · exact h3
    · rw [ha, hb] at h3; cases h3
  · intro ha hb
    rcases h3 with h3 | ⟨_, h3⟩
    · exact h3
    · rw [ha, hb] at h3; cases h3

/-- A drawn region and our order of it. -/
structure Plan (P : Program) (cx : Cx) (G : Nat) (ρ : Nat → Int) (ops : Array Oper) (N : Nat) (L : List SOper) : Prop where
  op : ∀ (p : Nat) (d : SOper), L[p]? = some d → ∃ o, ops[d.no]? = some o ∧ OperR P cx G ρ ops N o d ∧ SkCongr d.op d.rd ∧ ∀ t b, d.guard = some (t, b) → t ∈ d.rd
  pair : ∀ (p q : Nat) (a b : SOper), p < q → L[p]? = some a → L[q]? = some b → Pair a b
  all : ∀ i, i < ops.size → ∃ (p : Nat) (d : SOper), L[p]? = some d ∧ d.no = i
  deps : ∀ (p : Nat) (d : SOper) (o : Oper), L[p]? = some d → ops[d.no]? = some o → ∀ j, d.deps.testBit j = true →
    ∃ e ∈ o.after, Region.binds .any e = true ∧ (j = e.on ∨ ∃ (q : Nat) (d' : SOper), L[q]? = some d' ∧ d'.no = e.on ∧ d'.deps.testBit j = true)
  back : ∀ (i : Nat) (o : Oper), ops[i]? = some o → ∀ e ∈ o.after, Region.binds .any e = true → e.on < i

theorem Plan.uniq {ops : Array Oper} {N : Nat} {L : List SOper} (hP : Plan P cx G ρ ops N L) {p q : Nat} {a b : SOper} (h1 : L[p]? = some a) (h2 : L[q]? = some b) (h : a.no = b.no) : p = q := by
  rcases Nat.lt_trichotomy p q with h3 | h3 | h3
  · exact absurd h (hP.pair p q a b h3 h1 h2).no
  · exact h3
  · exact absurd h.symm (hP.pair q p b a h3 h2 h1).no

def effs (l : List SOper) : Nat := l.countP fun d => d.op.isEff
theorem Trace.k_eq {rec : Rec} {L : List SOper} {E : Nat → Env} {Hp Gs : Nat → Heap} {K : Nat → Nat} (ht : Trace rec L E Hp K Gs) (h0 : K 0 = 0) : ∀ p, p ≤ L.length → K p = effs (L.take p)
  | 0, _ => by simp [h0, effs]
  | p + 1, h => by
    have hlt : p < L.length := by omega
    rw [ht.k p L[p] (List.getElem?_eq_getElem hlt), ht.k_eq h0 p (by omega), List.take_add_one, List.getElem?_eq_getElem hlt]
    simp only [effs, List.countP_append, Option.toList_some, List.countP_cons, List.countP_nil, Nat.zero_add]
theorem effsIn_eq (m : Nat) : ∀ L, effsIn m L = L.countP fun d => d.op.isEff && m.testBit d.no
  | [] => rfl
  | d :: L => by
    rw [effsIn, effsIn_eq m L, List.countP_cons]
    cases (d.op.isEff && m.testBit d.no) <;> simp <;> omega
theorem effsIn_le {m : Nat} {L : List SOper} {q : Nat} (h : ∀ (p : Nat) (d : SOper), L[p]? = some d → d.op.isEff = true → m.testBit d.no = true → p < q) : effsIn m L ≤ effs (L.take q) := by
  rw [effsIn_eq]
  conv => lhs; rw [← List.take_append_drop q L]
  rw [List.countP_append]
  have h2 : (L.drop q).countP (fun d => d.op.isEff && m.testBit d.no) = 0 := by
    rw [List.countP_eq_zero]
    intro d hd hh
    obtain ⟨j, hj⟩ := List.mem_iff_getElem?.1 hd
    rw [List.getElem?_drop] at hj
    simp only [Bool.and_eq_true] at hh
    have := h _ d hj hh.1 hh.2
    omega
  rw [h2, Nat.add_zero]
  exact List.countP_mono_left (fun d _ hh => by simp only [Bool.and_eq_true] at hh; exact hh.1)
theorem effsTill_ge {j : Nat} : ∀ {L : List SOper} {q : Nat}, (∀ (p : Nat) (d : SOper), p < q → L[p]? = some d → d.op.isEff = true → d.deps.testBit j = false) → effs (L.take q) ≤ effsTill j L
  | [], q, _ => by simp [effs]
  | d :: L, 0, _ => by simp [effs]
  | d :: L, q + 1, h => by
    have ih : effs (L.take q) ≤ effsTill j L := effsTill_ge fun p d' hp hd he => h (p + 1) d' (by omega) (by simpa using hd) he
    rw [List.take_succ_cons, effs, List.countP_cons, effsTill]
    change effs (L.take q) + _ ≤ _
    cases he : d.op.isEff with
    | true =>
      rw [h 0 d (by omega) rfl he]
      simp
      omega
    | false => simpa using ih

/-- Where a drawn region stands, some of its operations done. 'm': our place behind the last operation with effects that is done. -/
structure Inv (D : List Deferred) (cx : Cx) (G : Nat) (ρ : Nat → Int) (ops : Array Oper) (N : Nat) (L : List SOper) (E : Nat → Env) (Hp Gs : Nat → Heap) (K : Nat → Nat) (Φ₀ : Emb) (w₀ : World)
    (listed : Array Bool) (a : Act) (w : World) (Φ : Emb) (m : Nat) : Prop where
  size : listed.size = ops.size
  closed : ∀ (p : Nat) (d : SOper), L[p]? = some d → Lst listed d.no → ∀ j, d.deps.testBit j = true → Lst listed j
  mle : m ≤ L.length
  fore : ∀ (p : Nat) (d : SOper), p < m → L[p]? = some d → d.op.isEff = true ∨ d.op.isAlloc = true → Lst listed d.no
  aft : ∀ (p : Nat) (d : SOper), m ≤ p → L[p]? = some d → d.op.isEff = true → ¬ Lst listed d.no
  at_ : Gs (K m) = Hp m
  rel : Rel cx G ρ Φ (Hp m) w
  pend : ∀ (p : Nat) (d : SOper) r, m ≤ p → L[p]? = some d → d.op = .alloc r → Lst listed d.no → wanted (E p) d.guard = some true → ∀ v ob, r (E p) (Hp p).next = some (v, ob) → ObjR ρ Φ w (Hp p).next ob
  only : ∀ f e l, (Hp m).next ≤ f → f < (Hp L.length).next → Φ f e = some l →
    ∃ (p : Nat) (d : SOper), m ≤ p ∧ L[p]? = some d ∧ d.op.isAlloc = true ∧ Lst listed d.no ∧ wanted (E p) d.guard = some true ∧ f = (Hp p).next
  ext : ExtN (Hp L.length).next Φ₀ (Hp 0) w₀ Φ (Hp m) w
  tmp : ∀ (t q : Nat), q ≤ L.length → (∀ (p : Nat) (d : SOper), p < q → L[p]? = some d → d.dst = some t → Lst listed d.no) → (∀ (p : Nat) (d : SOper), q ≤ p → L[p]? = some d → d.dst = some t → ¬ Lst listed d.no) →
    ∀ v, (E q).get t = some v → ∃ x, a.tmps[t]? = some x ∧ VR ρ Φ v x
  big : N ≤ a.tmps.size
  defers : a.defers = D

section
variable {ops : Array Oper} {N : Nat} {L : List SOper} {E : Nat → Env} {Hp Gs : Nat → Heap} {K : Nat → Nat} {Φ₀ : Emb} {w₀ : World} {rec : Rec}
  {listed : Array Bool} {a : Act} {w : World} {Φ : Emb} {m : Nat}

theorem tr_rise (hrec : RecOk P cx G ρ rec) (hP : Plan P cx G ρ ops N L) (ht : Trace rec L E Hp K Gs) {p : Nat} : ∀ {q : Nat}, p ≤ q → q ≤ L.length → (Hp p).next ≤ (Hp q).next := by
  intro q hq
  induction q with
  | zero => intro _; obtain rfl : p = 0 := by omega
            exact Nat.le_refl _
  | succ q ih =>
    intro hl
    by_cases h : p = q + 1
    · subst h; exact Nat.le_refl _
    · have hlt : q < L.length := by omega
      refine Nat.le_trans (ih (by omega) (by omega)) ?_
      obtain ⟨o, _, ho, _⟩ := hP.op q L[q] (List.getElem?_eq_getElem hlt)
      rcases ht.step q L[q] (List.getElem?_eq_getElem hlt) with ⟨_, _, h3⟩ | ⟨_, v, h3, _⟩
      · rw [h3]; exact Nat.le_refl _
      · exact runOp_rising hrec ho.ok h3
theorem tr_alloc (ht : Trace rec L E Hp K Gs) {p : Nat} {d : SOper} (hd : L[p]? = some d) (ha : d.op.isAlloc = true) (hw : wanted (E p) d.guard = some true) :
    ∃ r v ob, d.op = .alloc r ∧ r (E p) (Hp p).next = some (v, ob) ∧ Hp (p + 1) = (Hp p).new ob ∧ E (p + 1) = putDst (E p) d.dst v := by
  cases hop : d.op with
  | alloc r =>
    rcases ht.step p d hd with ⟨h1, _⟩ | ⟨_, v, h3, h4, _⟩
    · rw [hw] at h1; cases h1
    · rw [hop] at h3
      simp only [runOp] at h3
      split at h3
      · rename_i v' ob hr
        simp at h3
        obtain ⟨rfl, h3⟩ := h3
        exact ⟨r, v', ob, rfl, hr, h3.symm, h4⟩
      · cases h3
  | _ => rw [hop] at ha; cases ha

/-- Objects that lie pending are taken into the heap. -/
theorem Inv.absorb (ht : Trace rec L E Hp K Gs) (I : Inv D cx G ρ ops N L E Hp Gs K Φ₀ w₀ listed a w Φ m) : ∀ {q : Nat}, m ≤ q → q ≤ L.length →
    (∀ (p : Nat) (d : SOper), m ≤ p → p < q → L[p]? = some d → d.op.isEff = false ∧ (d.op.isAlloc = true → Lst listed d.no)) →
    Rel cx G ρ Φ (Hp q) w ∧ ExtN (Hp L.length).next Φ₀ (Hp 0) w₀ Φ (Hp q) w := by
  intro q
  induction q with
  | zero => intro h1 _ _; obtain rfl : m = 0 := by omega
            exact ⟨I.rel, I.ext⟩
  | succ q ih =>
    intro h1 h2 h3
    by_cases hm : m = q + 1
    · subst hm; exact ⟨I.rel, I.ext⟩
    · have hlt : q < L.length := by omega
      obtain ⟨k1, k2⟩ := ih (by omega) (by omega) (fun p d a1 a2 a3 => h3 p d a1 (by omega) a3)
      have hd : L[q]? = some L[q] := List.getElem?_eq_getElem hlt
      obtain ⟨e1, e2⟩ := h3 q _ (by omega) (by omega) hd
      cases ha : L[q].op.isAlloc with
      | true =>
        rcases ht.step q _ hd with ⟨_, _, h4⟩ | ⟨hw, _⟩
        · rw [h4]; exact ⟨k1, k2⟩
        · obtain ⟨r, v, ob, g1, g2, g3, _⟩ := tr_alloc ht hd ha hw
          rw [g3]
          exact ⟨k1.absorb (I.pend q _ r (by omega) hd g1 (e2 ha) hw v ob g2), k2.absorb ob⟩
      | false =>
        have : Hp (q + 1) = Hp q := by
          rcases ht.step q _ hd with ⟨_, _, h4⟩ | ⟨_, v, h4, _⟩
          · exact h4
          · cases hop : L[q].op with
            | pure r => rw [hop] at h4; simp only [runOp] at h4; split at h4 <;> simp at h4; exact h4.2.symm
            | read r => rw [hop] at h4; simp only [runOp] at h4; split at h4 <;> simp at h4; exact h4.2.symm
            | alloc r => rw [hop] at ha; cases ha
            | fresh y r => rw [hop] at h4; simp only [runOp] at h4; split at h4 <;> simp at h4; exact h4.2.symm
            | eff r => rw [hop] at e1; cases e1
            | call r => rw [hop] at e1; cases e1
        rw [this]; exact ⟨k1, k2⟩

/-- What a ready operation reads. -/
theorem Inv.env (hP : Plan P cx G ρ ops N L) (I : Inv D cx G ρ ops N L E Hp Gs K Φ₀ w₀ listed a w Φ m) {p : Nat} {d : SOper} (hd : L[p]? = some d) (hno : ¬ Lst listed d.no)
    (hdeps : ∀ j, d.deps.testBit j = true → Lst listed j) : EnvR ρ Φ (rst (E p) d.rd) a.tmps := by
  intro t v hv
  rw [rst_get] at hv
  split at hv
  · rename_i hin
    have hpl : p < L.length := (List.getElem?_eq_some_iff.1 hd).1
    refine I.tmp t p (by omega) ?_ ?_ v hv
    · intro p' d' hp' hd' hdst
      exact hdeps _ ((hP.pair p' p d' d hp' hd' hd).rd t hdst hin)
    · intro p' d' hp' hd' hdst hl
      by_cases he : p' = p
      · subst he; rw [hd] at hd'; obtain rfl : d = d' := by simpa using hd'
        exact hno hl
      · exact hno (I.closed p' d' hd' hl _ ((hP.pair p p' d d' (by omega) hd hd').wr t hdst hin))
  · cases hv

/-- The temporaries behind one operation. -/
theorem Inv.tmps (hP : Plan P cx G ρ ops N L) (ht : Trace rec L E Hp K Gs) (I : Inv D cx G ρ ops N L E Hp Gs K Φ₀ w₀ listed a w Φ m) {p : Nat} {d : SOper} (hd : L[p]? = some d) (hno : ¬ Lst listed d.no)
    {Φ' : Emb} (hle : Φ.le Φ') {v : V} {x : Value} (r : VR ρ Φ' v x) (hE : E (p + 1) = putDst (E p) d.dst v) (hin : d.no < ops.size) :
    ∀ (t q : Nat), q ≤ L.length → (∀ (p' : Nat) (d' : SOper), p' < q → L[p']? = some d' → d'.dst = some t → Lst (listed.setIfInBounds d.no true) d'.no) →
      (∀ (p' : Nat) (d' : SOper), q ≤ p' → L[p']? = some d' → d'.dst = some t → ¬ Lst (listed.setIfInBounds d.no true) d'.no) →
      ∀ u, (E q).get t = some u → ∃ y, (a.put d.dst x).tmps[t]? = some y ∧ VR ρ Φ' u y := by
  intro t q hq h1 h2 u hu
  have hsz : d.no < listed.size := by rw [I.size]; exact hin
  obtain ⟨o, _, hop, _⟩ := hP.op p d hd
  by_cases hdt : d.dst = some t
  · have hpq : p < q := by
      rcases Nat.lt_or_ge p q with h | h
      · exact h
      · exact absurd ((lst_set hsz).2 (.inl rfl)) (h2 p d h hd hdt)
    have hsame : ∀ r, p + 1 ≤ r → r ≤ q → (E r).get t = (E (p + 1)).get t := by
      intro r
      induction r with
      | zero => intro h _; omega
      | succ r ih =>
        intro h3 h4
        by_cases hr : r = p
        · subst hr; rfl
        · have hrl : r < L.length := by omega
          have hdr : L[r]? = some L[r] := List.getElem?_eq_getElem hrl
          rw [← ih (by omega) (by omega)]
          have hnot : L[r].dst ≠ some t := by
            intro he
            rcases (lst_set hsz).1 (h1 r _ (by omega) hdr he) with h5 | h5
            · exact hr (hP.uniq hdr hd h5)
            · exact hno (I.closed r _ hdr h5 _ ((hP.pair p r d _ (by omega) hd hdr).ww t hdt he))
          rcases ht.step r _ hdr with ⟨_, h5, _⟩ | ⟨_, v, _, h5, _⟩ <;> rw [h5, putDst_get, if_neg hnot]
    rw [hsame q hpq (Nat.le_refl _), hE, putDst_get, if_pos hdt] at hu
    obtain rfl : v = u := by simpa using hu
    refine ⟨x, ?_, r⟩
    have h6 : t < a.tmps.size := Nat.lt_of_lt_of_le (hop.lt t hdt) I.big
    rw [hdt]
    simp [Act.put, h6]
  · obtain ⟨y, k1, k2⟩ := I.tmp t q hq (fun p' d' a1 a2 a3 => by
        rcases (lst_set hsz).1 (h1 p' d' a1 a2 a3) with h5 | h5
        · have := hP.uniq a2 hd h5
          subst this
          rw [hd] at a2
          obtain rfl : d = d' := by simpa using a2
          exact absurd a3 hdt
        · exact h5) (fun p' d' a1 a2 a3 h5 => h2 p' d' a1 a2 a3 ((lst_set hsz).2 (.inr h5))) u hu
    refine ⟨y, ?_, k2.le hle⟩
    cases hdd : d.dst with
    | none => exact k1
    | some t' =>
      have : t' ≠ t := fun e => hdt (by rw [hdd, e])
      simp only [Act.put]
      rw [Array.getElem?_setIfInBounds_ne this]
      exact k1

theorem Inv.closed' (I : Inv D cx G ρ ops N L E Hp Gs K Φ₀ w₀ listed a w Φ m) (hP : Plan P cx G ρ ops N L) {p : Nat} {d : SOper} (hd : L[p]? = some d)
    (hdeps : ∀ j, d.deps.testBit j = true → Lst listed j) (hin : d.no < ops.size) :
    ∀ (p' : Nat) (d' : SOper), L[p']? = some d' → Lst (listed.setIfInBounds d.no true) d'.no → ∀ j, d'.deps.testBit j = true → Lst (listed.setIfInBounds d.no true) j := by
  intro p' d' hd' hl j hj
  have hsz : d.no < listed.size := by rw [I.size]; exact hin
  rcases (lst_set hsz).1 hl with h5 | h5
  · have := hP.uniq hd' hd h5
    subst this
    rw [hd] at hd'
    obtain rfl : d = d' := by simpa using hd'
    exact (lst_set hsz).2 (.inr (hdeps j hj))
  · exact (lst_set hsz).2 (.inr (I.closed p' d' hd' h5 j hj))
end
end Go.Sk

/-
  SK, PART N. A drawn region: each step, and all of them.
-/
namespace Go.Sk
variable {D : List Deferred} {P : Program} {cx : Cx} {G : Nat} {ρ : Nat → Int} {T : TT}
section
variable {ops : Array Oper} {N : Nat} {L : List SOper} {E : Nat → Env} {Hp Gs : Nat → Heap} {K : Nat → Nat} {Φ₀ : Emb} {w₀ : World} {rec : Rec}
  {listed : Array Bool} {a : Act} {w : World} {Φ : Emb} {m : Nat}

theorem get_same {p : Nat} {d d' : SOper} (h : L[p]? = some d) (h' : L[p]? = some d') : d = d' := by rw [h] at h'; simpa using h'

/-- An operation that leaves the heap alone. -/
theorem Inv.quiet (hP : Plan P cx G ρ ops N L) (ht : Trace rec L E Hp K Gs) (I : Inv D cx G ρ ops N L E Hp Gs K Φ₀ w₀ listed a w Φ m) {p : Nat} {d : SOper} (hd : L[p]? = some d) (hno : ¬ Lst listed d.no)
    (hdeps : ∀ j, d.deps.testBit j = true → Lst listed j) (hin : d.no < ops.size) (he : d.op.isEff = false) (ha : d.op.isAlloc = false ∨ wanted (E p) d.guard ≠ some true)
    {v : V} {x : Value} (r : VR ρ Φ v x) (hE : E (p + 1) = putDst (E p) d.dst v) :
    Inv D cx G ρ ops N L E Hp Gs K Φ₀ w₀ (listed.setIfInBounds d.no true) (a.put d.dst x) w Φ m := by
  have hsz : d.no < listed.size := by rw [I.size]; exact hin
  refine ⟨by simp [I.size], I.closed' hP hd hdeps hin, I.mle, fun p' d' h1 h2 h3 => (lst_set hsz).2 (.inr (I.fore p' d' h1 h2 h3)), ?_, I.at_, I.rel, ?_, ?_, I.ext,
    I.tmps hP ht hd hno (fun _ _ _ h => h) r hE hin, by rw [put_size]; exact I.big, by rw [put_defers']; exact I.defers⟩
  · intro p' d' h1 h2 h3 h4
    rcases (lst_set hsz).1 h4 with h5 | h5
    · have := hP.uniq h2 hd h5
      subst this
      obtain rfl := get_same hd h2
      rw [he] at h3; cases h3
    · exact I.aft p' d' h1 h2 h3 h5
  · intro p' d' r' h1 h2 h3 h4 h5 v' ob hr
    rcases (lst_set hsz).1 h4 with h6 | h6
    · have := hP.uniq h2 hd h6
      subst this
      obtain rfl := get_same hd h2
      rcases ha with ha | ha
      · rw [h3] at ha; cases ha
      · exact absurd h5 ha
    · exact I.pend p' d' r' h1 h2 h3 h6 h5 v' ob hr
  · intro f e l h1 h2 h3
    obtain ⟨p', d', g1, g2, g3, g4, g5⟩ := I.only f e l h1 h2 h3
    exact ⟨p', d', g1, g2, g3, (lst_set hsz).2 (.inr g4), g5⟩

theorem Inv.alloc_ge (I : Inv D cx G ρ ops N L E Hp Gs K Φ₀ w₀ listed a w Φ m) {p : Nat} {d : SOper} (hd : L[p]? = some d) (hno : ¬ Lst listed d.no) (h : d.op.isEff = true ∨ d.op.isAlloc = true) : m ≤ p := by
  rcases Nat.lt_or_ge p m with h1 | h1
  · exact absurd (I.fore p d h1 hd h) hno
  · exact h1

theorem tr_alloc_next (ht : Trace rec L E Hp K Gs) {p : Nat} {d : SOper} (hd : L[p]? = some d) (ha : d.op.isAlloc = true) (hw : wanted (E p) d.guard = some true) :
    (Hp (p + 1)).next = (Hp p).next + 1 := by
  obtain ⟨_, _, _, _, _, h, _⟩ := tr_alloc ht hd ha hw
  rw [h]; rfl

/-- Two objects of a region bear two numbers. -/
theorem alloc_ne (hrec : RecOk P cx G ρ rec) (hP : Plan P cx G ρ ops N L) (ht : Trace rec L E Hp K Gs) {p q : Nat} {d d' : SOper} (hd : L[p]? = some d) (hd' : L[q]? = some d') (ha : d.op.isAlloc = true) (ha' : d'.op.isAlloc = true)
    (hw : wanted (E p) d.guard = some true) (hw' : wanted (E q) d'.guard = some true) (h : (Hp p).next = (Hp q).next) : p = q := by
  have hl1 := (List.getElem?_eq_some_iff.1 hd).1
  have hl2 := (List.getElem?_eq_some_iff.1 hd').1
  rcases Nat.lt_trichotomy p q with h3 | h3 | h3
  · have h4 := tr_alloc_next ht hd ha hw
    have h5 := tr_rise hrec hP ht (show p + 1 ≤ q by omega) (by omega)
    omega
  · exact h3
  · have h4 := tr_alloc_next ht hd' ha' hw'
    have h5 := tr_rise hrec hP ht (show q + 1 ≤ p by omega) (by omega)
    omega

/-- An operation that makes an object. -/
theorem Inv.alloc (hrec : RecOk P cx G ρ rec) (hP : Plan P cx G ρ ops N L) (ht : Trace rec L E Hp K Gs) (I : Inv D cx G ρ ops N L E Hp Gs K Φ₀ w₀ listed a w Φ m) {p : Nat} {d : SOper} (hd : L[p]? = some d) (hno : ¬ Lst listed d.no)
    (hdeps : ∀ j, d.deps.testBit j = true → Lst listed j) (hin : d.no < ops.size) (ha : d.op.isAlloc = true) (hw : wanted (E p) d.guard = some true)
    (hfree : ∀ e, Φ (Hp p).next e = none)
    {v : V} {x : Value} {l : Loc} {ro : Go.Obj} (hl : l.blk = w.heap.size) (r : VR ρ (Φ.set (Hp p).next 0 l) v x) (hE : E (p + 1) = putDst (E p) d.dst v)
    (ho : ∀ r v ob, d.op = .alloc r → r (E p) (Hp p).next = some (v, ob) → ObjR ρ (Φ.set (Hp p).next 0 l) { w with heap := w.heap.push ro } (Hp p).next ob) :
    Inv D cx G ρ ops N L E Hp Gs K Φ₀ w₀ (listed.setIfInBounds d.no true) (a.put d.dst x) { w with heap := w.heap.push ro } (Φ.set (Hp p).next 0 l) m := by
  have hsz : d.no < listed.size := by rw [I.size]; exact hin
  have he : d.op.isEff = false := by cases hop : d.op <;> rw [hop] at ha <;> first | rfl | cases ha
  have hmp := I.alloc_ge hd hno (.inr ha)
  have hpl := (List.getElem?_eq_some_iff.1 hd).1
  obtain ⟨r0, v0, ob0, g1, g2, g3, g4⟩ := tr_alloc ht hd ha hw
  have hnx : (Hp m).next ≤ (Hp p).next := tr_rise hrec hP ht hmp (by omega)
  have hN : (Hp p).next < (Hp L.length).next := by
    have h4 := tr_alloc_next ht hd ha hw
    have h5 := tr_rise hrec hP ht (show p + 1 ≤ L.length by omega) (Nat.le_refl _)
    omega
  have hle := Emb.le_set l (hfree 0)
  refine ⟨by simp [I.size], I.closed' hP hd hdeps hin, I.mle, fun p' d' h1 h2 h3 => (lst_set hsz).2 (.inr (I.fore p' d' h1 h2 h3)), ?_, I.at_, I.rel.pend hnx hfree hl (ho _ _ _ g1 g2), ?_, ?_,
    I.ext.pend hN hfree hl (by have := (ho _ _ _ g1 g2).soft (Emb.set_same _ _ _ _); rw [hl] at this; simpa using this), I.tmps hP ht hd hno hle r hE hin, by rw [put_size]; exact I.big, by rw [put_defers']; exact I.defers⟩
  · intro p' d' h1 h2 h3 h4
    rcases (lst_set hsz).1 h4 with h5 | h5
    · have := hP.uniq h2 hd h5
      subst this
      obtain rfl := get_same hd h2
      rw [he] at h3; cases h3
    · exact I.aft p' d' h1 h2 h3 h5
  · intro p' d' r' h1 h2 h3 h4 h5 v' ob hr
    rcases (lst_set hsz).1 h4 with h6 | h6
    · have := hP.uniq h2 hd h6
      subst this
      obtain rfl := get_same hd h2
      exact ho _ _ _ h3 hr
    · have hne : p' ≠ p := fun e => by
        subst e
        obtain rfl := get_same hd h2
        exact hno h6
      have hnum : (Hp p').next ≠ (Hp p).next := fun e => hne (alloc_ne hrec hP ht h2 hd (by rw [h3]; rfl) ha h5 hw e)
      refine (I.pend p' d' r' h1 h2 h3 h6 h5 v' ob hr).keep hle ?_ ?_
      · funext e
        exact Emb.set_other _ _ _ _ (fun h => hnum h.1)
      · intro e l' hl'
        have := (I.rel.dom _ _ _ hl').1
        simp only [Array.getElem?_push]
        rw [if_neg (by omega)]
  · intro f e l' h1 h2 h3
    by_cases hf : f = (Hp p).next ∧ e = 0
    · exact ⟨p, d, hmp, hd, ha, (lst_set hsz).2 (.inl rfl), hw, hf.1⟩
    · rw [Emb.set_other _ _ _ _ hf] at h3
      obtain ⟨p', d', g1, g2, g3, g4, g5⟩ := I.only f e l' h1 h2 h3
      exact ⟨p', d', g1, g2, g3, (lst_set hsz).2 (.inr g4), g5⟩

/-- Ahead of an operation with effects. -/
theorem Inv.eff_pre (hP : Plan P cx G ρ ops N L) (ht : Trace rec L E Hp K Gs) (I : Inv D cx G ρ ops N L E Hp Gs K Φ₀ w₀ listed a w Φ m) {p : Nat} {d : SOper} (hd : L[p]? = some d) (hno : ¬ Lst listed d.no)
    (hdeps : ∀ j, d.deps.testBit j = true → Lst listed j) (he : d.op.isEff = true) :
    m ≤ p ∧ Rel cx G ρ Φ (Hp p) w ∧ ExtN (Hp L.length).next Φ₀ (Hp 0) w₀ Φ (Hp p) w := by
  have hmp := I.alloc_ge hd hno (.inl he)
  have hpl := (List.getElem?_eq_some_iff.1 hd).1
  refine ⟨hmp, I.absorb ht hmp (by omega) ?_⟩
  intro p' d' h1 h2 h3
  have hpr := hP.pair p' p d' d h2 h3 hd
  constructor
  · cases h4 : d'.op.isEff with
    | false => rfl
    | true => exact absurd (hdeps _ (hpr.ee h4 he)) (I.aft p' d' h1 h3 h4)
  · intro h4
    exact hdeps _ (hpr.ae h4 he)

theorem Inv.free (hrec : RecOk P cx G ρ rec) (hP : Plan P cx G ρ ops N L) (ht : Trace rec L E Hp K Gs) (I : Inv D cx G ρ ops N L E Hp Gs K Φ₀ w₀ listed a w Φ m) {p : Nat} {d : SOper} (hd : L[p]? = some d)
    (hmp : m ≤ p) (he : d.op.isAlloc = false) : Free Φ (Hp p).next (Hp (p + 1)).next := by
  intro f e h1 h2
  have hpl := (List.getElem?_eq_some_iff.1 hd).1
  cases hΦ : Φ f e with
  | none => rfl
  | some l =>
    have g1 := tr_rise hrec hP ht hmp (by omega)
    have g2 := tr_rise hrec hP ht (show p + 1 ≤ L.length by omega) (Nat.le_refl _)
    obtain ⟨q, d', k1, k2, k3, k4, k5, k6⟩ := I.only f e l (by omega) (by omega) hΦ
    have hql := (List.getElem?_eq_some_iff.1 k2).1
    rcases Nat.lt_trichotomy q p with h3 | h3 | h3
    · have h4 := tr_alloc_next ht k2 k3 k5
      have h5 := tr_rise hrec hP ht (show q + 1 ≤ p by omega) (by omega)
      omega
    · subst h3
      obtain rfl := get_same hd k2
      rw [he] at k3; cases k3
    · have h5 := tr_rise hrec hP ht (show p + 1 ≤ q by omega) (by omega)
      omega

/-- Behind an operation with effects. -/
theorem Inv.eff (hrec : RecOk P cx G ρ rec) (hP : Plan P cx G ρ ops N L) (ht : Trace rec L E Hp K Gs) (hfr : Free Φ₀ (Hp 0).next (Hp L.length).next)
    (I : Inv D cx G ρ ops N L E Hp Gs K Φ₀ w₀ listed a w Φ m) {p : Nat} {d : SOper} (hd : L[p]? = some d) (hno : ¬ Lst listed d.no)
    (hdeps : ∀ j, d.deps.testBit j = true → Lst listed j) (hin : d.no < ops.size) (he : d.op.isEff = true)
    {Φ' : Emb} {w' : World} (R : Rel cx G ρ Φ' (Hp (p + 1)) w') (X : Ext Φ (Hp p) w Φ' (Hp (p + 1)) w')
    {v : V} {x : Value} (r : VR ρ Φ' v x) (hE : E (p + 1) = putDst (E p) d.dst v) :
    Inv D cx G ρ ops N L E Hp Gs K Φ₀ w₀ (listed.setIfInBounds d.no true) (a.put d.dst x) w' Φ' (p + 1) := by
  have hsz : d.no < listed.size := by rw [I.size]; exact hin
  have hpl := (List.getElem?_eq_some_iff.1 hd).1
  obtain ⟨hmp, k1, k2⟩ := I.eff_pre hP ht hd hno hdeps he
  have hna : d.op.isAlloc = false := by cases hop : d.op <;> rw [hop] at he <;> first | rfl | cases he
  have hr1 : (Hp p).next ≤ (Hp (p + 1)).next := tr_rise hrec hP ht (by omega) (by omega)
  have hr2 : (Hp (p + 1)).next ≤ (Hp L.length).next := tr_rise hrec hP ht (by omega) (Nat.le_refl _)
  have hr0 : (Hp m).next ≤ (Hp p).next := tr_rise hrec hP ht hmp (by omega)
  refine ⟨by simp [I.size], I.closed' hP hd hdeps hin, by omega, ?_, ?_, ?_, R, ?_, ?_, k2.trans hfr (by omega) hr2 X, I.tmps hP ht hd hno X.le r hE hin,
    by rw [put_size]; exact I.big, by rw [put_defers']; exact I.defers⟩
  · intro p' d' h1 h2 h3
    by_cases h4 : p' = p
    · subst h4
      obtain rfl := get_same hd h2
      exact (lst_set hsz).2 (.inl rfl)
    · have hpr := hP.pair p' p d' d (by omega) h2 hd
      refine (lst_set hsz).2 (.inr (hdeps _ ?_))
      rcases h3 with h3 | h3
      · exact hpr.ee h3 he
      · exact hpr.ae h3 he
  · intro p' d' h1 h2 h3 h4
    have hpr := hP.pair p p' d d' (by omega) hd h2
    rcases (lst_set hsz).1 h4 with h5 | h5
    · exact hpr.no h5.symm
    · exact hno (I.closed p' d' h2 h5 _ (hpr.ee he h3))
  · rw [ht.k p d hd, he]
    simp only [if_true]
    exact ht.gs p d hd he
  · intro p' d' r' h1 h2 h3 h4 h5 v' ob hr
    have h4' : Lst listed d'.no := by
      rcases (lst_set hsz).1 h4 with h6 | h6
      · have := hP.uniq h2 hd h6
        omega
      · exact h6
    have hp'l := (List.getElem?_eq_some_iff.1 h2).1
    have hge : (Hp (p + 1)).next ≤ (Hp p').next := tr_rise hrec hP ht h1 (by omega)
    refine (I.pend p' d' r' (by omega) h2 h3 h4' h5 v' ob hr).keep X.le (X.far _ hge) ?_
    intro e l hl
    refine X.frame l.blk (I.rel.dom _ _ _ hl).1 ?_
    rintro ⟨f, e', l', g1, g2, g3⟩
    have := (k1.inj _ _ _ _ _ _ g2 hl g3).1
    cases ho : (Hp p).objs.get f with
    | none => exact g1 ho
    | some o => have := k1.old f o ho; omega
  · intro f e l h1 h2 h3
    rw [X.far f h1] at h3
    obtain ⟨q, d', g1, g2, g3, g4, g5, g6⟩ := I.only f e l (by omega) h2 h3
    have hql := (List.getElem?_eq_some_iff.1 g2).1
    refine ⟨q, d', ?_, g2, g3, (lst_set hsz).2 (.inr g4), g5, g6⟩
    rcases Nat.lt_trichotomy q p with h4 | h4 | h4
    · have h5 := tr_alloc_next ht g2 g3 g5
      have h6 := tr_rise hrec hP ht (show q + 1 ≤ p by omega) (by omega)
      omega
    · subst h4
      obtain rfl := get_same hd g2
      rw [hna] at g3; cases g3
    · exact h4

/-- The heap, with one object that lies pending, that an operation of the region reads. -/
theorem Inv.fresh (hrec : RecOk P cx G ρ rec) (hP : Plan P cx G ρ ops N L) (ht : Trace rec L E Hp K Gs) (I : Inv D cx G ρ ops N L E Hp Gs K Φ₀ w₀ listed a w Φ m) {p : Nat} {d : SOper} (hd : L[p]? = some d)
    (hf : d.op.isFresh = true) (hno : ¬ Lst listed d.no) {f : Nat} (h1 : (Gs (K p)).next ≤ f) (h2 : f < (Hp p).next) (hl : ∃ e l, Φ f e = some l) :
    ∃ H', Rel cx G ρ Φ H' w ∧ H'.objs.get f = (Hp p).objs.get f := by
  have hpl := (List.getElem?_eq_some_iff.1 hd).1
  have hne : d.op.isEff = false := by cases hop : d.op <;> rw [hop] at hf <;> first | rfl | cases hf
  -- effects behind it are not done yet
  have hlate : ∀ (q : Nat) (d' : SOper), p ≤ q → L[q]? = some d' → d'.op.isEff = true → ¬ Lst listed d'.no := by
    intro q d' hq hd' he hls
    by_cases hqp : q = p
    · subst hqp
      obtain rfl := get_same hd hd'
      rw [hne] at he; cases he
    · exact hno (I.closed q d' hd' hls _ ((hP.pair p q d d' (by omega) hd hd').fe hf he))
  have hmp : m ≤ p := by
    rcases Nat.lt_or_ge p m with hlt | hge
    · exfalso
      have hk : ∀ s, p ≤ s → s ≤ m → K s = K p := by
        intro s
        induction s with
        | zero => intro h3 _; obtain rfl : p = 0 := by omega
                  rfl
        | succ s ih =>
          intro h3 h4
          by_cases hs : p = s + 1
          · rw [hs]
          · have hsl : s < L.length := by have := I.mle; omega
            have hds := List.getElem?_eq_getElem hsl
            rw [ht.k s _ hds, ih (by omega) (by omega)]
            cases he : L[s].op.isEff with
            | false => simp
            | true => exact absurd (I.fore s _ (by omega) hds (.inl he)) (hlate s _ (by omega) hds he)
      have h5 := I.at_
      rw [hk m (by omega) (Nat.le_refl _)] at h5
      rw [h5] at h1
      have := tr_rise hrec hP ht (show p ≤ m by omega) I.mle
      omega
    · exact hge
  -- the last effect ahead of it
  have hlast : ∀ s, m ≤ s → s ≤ p → ∃ q, m ≤ q ∧ q ≤ s ∧ Gs (K s) = Hp q ∧ ∀ (r : Nat) (d' : SOper), q ≤ r → r < s → L[r]? = some d' → d'.op.isEff = false := by
    intro s
    induction s with
    | zero => intro h3 _; obtain rfl : m = 0 := by omega
              exact ⟨0, Nat.le_refl _, Nat.le_refl _, I.at_, fun r d' _ h _ => by omega⟩
    | succ s ih =>
      intro h3 h4
      by_cases hs : m = s + 1
      · subst hs
        exact ⟨s + 1, Nat.le_refl _, Nat.le_refl _, I.at_, fun r d' h5 h6 _ => by omega⟩
      · obtain ⟨q, q1, q2, q3, q4⟩ := ih (by omega) (by omega)
        have hsl : s < L.length := by omega
        have hds := List.getElem?_eq_getElem hsl
        cases he : L[s].op.isEff with
        | true =>
          refine ⟨s + 1, by omega, Nat.le_refl _, ?_, fun r d' h5 h6 _ => by omega⟩
          rw [ht.k s _ hds, he]
          exact ht.gs s _ hds he
        | false =>
          refine ⟨q, q1, by omega, ?_, fun r d' h5 h6 h7 => ?_⟩
          · rw [ht.k s _ hds, he]; exact q3
          · by_cases hr : r = s
            · subst hr
              obtain rfl := get_same hds h7
              exact he
            · exact q4 r d' h5 (by omega) h7
  obtain ⟨q, q1, q2, q3, q4⟩ := hlast p hmp (Nat.le_refl _)
  rw [q3] at h1
  have g1 := tr_rise hrec hP ht q1 (by omega)
  have g2 := tr_rise hrec hP ht (show p ≤ L.length by omega) (Nat.le_refl _)
  obtain ⟨e, l, hel⟩ := hl
  obtain ⟨p', d', k1, k2, k3, k4, k5, k6⟩ := I.only f e l (by omega) (by omega) hel
  have hp'l := (List.getElem?_eq_some_iff.1 k2).1
  have hp'p : p' < p := by
    rcases Nat.lt_or_ge p' p with h | h
    · exact h
    · have := tr_rise hrec hP ht h (by omega); omega
  have hqp' : q ≤ p' := by
    rcases Nat.lt_or_ge p' q with h | h
    · have := tr_rise hrec hP ht (show p' + 1 ≤ q by omega) (by omega)
      have := tr_alloc_next ht k2 k3 k5
      omega
    · exact h
  obtain ⟨r', v', ob, b1, b2, b3, b4⟩ := tr_alloc ht k2 k3 k5
  have hpend := I.pend p' d' r' k1 k2 b1 k4 k5 v' ob b2
  have hget : ∀ s, p' + 1 ≤ s → s ≤ p → (Hp s).objs.get f = some ob := by
    intro s
    induction s with
    | zero => intro h _; omega
    | succ s ih =>
      intro h3 h4
      by_cases hs : s = p'
      · subst hs
        rw [b3]; simp only [Heap.new, Tr.get_put, if_pos k6]
      · have hsl : s < L.length := by omega
        have hds := List.getElem?_eq_getElem hsl
        have h5 := ih (by omega) (by omega)
        have he := q4 s _ (by omega) (by omega) hds
        cases ha : L[s].op.isAlloc with
        | true =>
          rcases ht.step s _ hds with ⟨_, _, h6⟩ | ⟨hw, _⟩
          · rw [h6]; exact h5
          · obtain ⟨_, _, ob2, _, _, c3, _⟩ := tr_alloc ht hds ha hw
            rw [c3]
            simp only [Heap.new, Tr.get_put]
            have := tr_rise hrec hP ht (show p' + 1 ≤ s by omega) (by omega)
            have := tr_alloc_next ht k2 k3 k5
            rw [if_neg (by omega)]
            exact h5
        | false =>
          have : Hp (s + 1) = Hp s := by
            rcases ht.step s _ hds with ⟨_, _, h6⟩ | ⟨_, v, h6, _⟩
            · exact h6
            · cases hop : L[s].op with
              | pure r => rw [hop] at h6; simp only [runOp] at h6; split at h6 <;> simp at h6; exact h6.2.symm
              | read r => rw [hop] at h6; simp only [runOp] at h6; split at h6 <;> simp at h6; exact h6.2.symm
              | fresh y r => rw [hop] at h6; simp only [runOp] at h6; split at h6 <;> simp at h6; exact h6.2.symm
              | alloc r => rw [hop] at ha; cases ha
              | eff r => rw [hop] at he; cases he
              | call r => rw [hop] at he; cases he
          rw [this]; exact h5
  refine ⟨{ next := (Hp p).next, objs := (Hp m).objs.put f (some ob) }, ⟨fun g o hg => ?_, I.rel.inj, I.rel.dom, I.rel.glob, I.rel.asm, fun g o hg => ?_, I.rel.sz, I.rel.kind⟩, ?_⟩
  · simp only [Tr.get_put] at hg
    by_cases hgf : g = f
    · subst hgf
      rw [if_pos rfl] at hg
      simp only [Option.some.injEq] at hg
      subst hg
      rw [k6]; exact hpend
    · rw [if_neg hgf] at hg; exact I.rel.obj g o hg
  · simp only [Tr.get_put] at hg
    by_cases hgf : g = f
    · rw [hgf]; exact h2
    · rw [if_neg hgf] at hg
      have := I.rel.old g o hg
      have := tr_rise hrec hP ht hmp (by omega)
      simp only; omega
  · simp only [Tr.get_put, if_true]
    exact (hget p (by omega) (Nat.le_refl _)).symm

/-- All have come up. -/
theorem Inv.final (hP : Plan P cx G ρ ops N L) (ht : Trace rec L E Hp K Gs) (I : Inv D cx G ρ ops N L E Hp Gs K Φ₀ w₀ listed a w Φ m) (hall : ∀ i, i < ops.size → Lst listed i) :
    AtR D cx G ρ N Φ (E L.length) (Hp L.length) a w ∧ Ext Φ₀ (Hp 0) w₀ Φ (Hp L.length) w := by
  have hl : ∀ (p : Nat) (d : SOper), L[p]? = some d → Lst listed d.no := fun p d hd => by
    obtain ⟨o, ho, _⟩ := hP.op p d hd
    exact hall _ (Array.getElem?_eq_some_iff.1 ho).1
  obtain ⟨k1, k2⟩ := I.absorb ht I.mle (Nat.le_refl _) (fun p d h1 h2 h3 => by
    constructor
    · cases h : d.op.isEff with
      | false => rfl
      | true => exact absurd (hl p d h3) (I.aft p d h1 h3 h)
    · exact fun _ => hl p d h3)
  refine ⟨⟨k1, ?_, I.big, I.defers⟩, k2.ext⟩
  intro t v hv
  refine I.tmp t L.length (Nat.le_refl _) (fun p d _ hd _ => hl p d hd) ?_ v hv
  intro p d h1 hd
  have := (List.getElem?_eq_some_iff.1 hd).1
  omega

def cnt (n : Nat) (listed : Array Bool) : Nat := (List.range n).countP fun i => !(listed.getD i false)
theorem countP_lt {α : Type} {p q : α → Bool} : ∀ {l : List α}, (∀ x ∈ l, q x = true → p x = true) → (∃ x ∈ l, p x = true ∧ q x = false) → l.countP q < l.countP p
  | [], _, ⟨x, h, _⟩ => by cases h
  | a :: l, h, ⟨x, hx, h1, h2⟩ => by
    have hle : l.countP q ≤ l.countP p := List.countP_mono_left (fun x hx => h x (by simp [hx]))
    rw [List.countP_cons, List.countP_cons]
    by_cases hq : q a = true
    · have hp := h a (by simp) hq
      rw [if_pos hq, if_pos hp]
      have hxl : x ∈ l := by
        rcases List.mem_cons.1 hx with h3 | h3
        · subst h3; rw [hq] at h2; cases h2
        · exact h3
      have := countP_lt (fun x hx => h x (by simp [hx])) ⟨x, hxl, h1, h2⟩
      omega
    · rw [if_neg hq]
      rcases List.mem_cons.1 hx with h3 | h3
      · subst h3; rw [if_pos h1]; omega
      · have := countP_lt (fun x hx => h x (by simp [hx])) ⟨x, h3, h1, h2⟩
        split <;> omega
theorem cnt_set {n i : Nat} {listed : Array Bool} (hi : i < n) (hs : listed.size = n) (h : ¬ Lst listed i) : cnt n (listed.setIfInBounds i true) < cnt n listed := by
  have hb : i < listed.size := by omega
  refine countP_lt ?_ ⟨i, by simpa using hi, ?_, ?_⟩
  · intro j _ hj
    cases h1 : listed.getD j false with
    | false => rfl
    | true =>
      have : Lst (listed.setIfInBounds i true) j := (lst_set hb).2 (.inr h1)
      unfold Lst at this
      rw [this] at hj; cases hj
  · unfold Lst at h; simpa using h
  · have : Lst (listed.setIfInBounds i true) i := (lst_set hb).2 (.inl rfl)
    unfold Lst at this
    rw [this]; rfl
theorem cnt_zero {n : Nat} {listed : Array Bool} (h : cnt n listed = 0) : ∀ i, i < n → Lst listed i := by
  intro i hi
  unfold cnt at h
  rw [List.countP_eq_zero] at h
  have := h i (by simpa using hi)
  unfold Lst
  simpa using this

theorem ready_nil (hP : Plan P cx G ρ ops N L) {listed : Array Bool} (hs : listed.size = ops.size) (h : Region.ready .any ops listed = []) : ∀ i, i < ops.size → Lst listed i := by
  intro i
  induction i using Nat.strongRecOn with
  | ind i ih =>
    intro hi
    cases hl : listed.getD i true with
    | true => unfold Lst; have : i < listed.size := by omega
              simp [this] at hl ⊢; exact hl
    | false =>
      exfalso
      have hm : i ∈ Region.ready .any ops listed := mem_ready.2 ⟨hl, ops[i], Array.getElem?_eq_getElem hi, fun e he hb => by
        have hlt := hP.back i ops[i] (Array.getElem?_eq_getElem hi) e he hb
        exact ih e.on hlt (by omega)⟩
      rw [h] at hm; cases hm

theorem plan_wp {Q : Exit → Act → World → Prop} (hrec : RecOk P cx G ρ rec) (hP : Plan P cx G ρ ops N L) (ht : Trace rec L E Hp K Gs) (hK : K 0 = 0) (hfr : Free Φ₀ (Hp 0).next (Hp L.length).next)
    (hchk : ∀ (p : Nat) (d : SOper) r v, L[p]? = some d → d.op = .read r → wanted (E p) d.guard = some true → r (E p) (Gs (K p)) = some v →
      ∀ j, effsIn d.deps L ≤ j → j ≤ effsTill d.no L → j ≤ K L.length → r (E p) (Gs j) = some v)
    (hQ : ∀ Φ' a' w', AtR D cx G ρ N Φ' (E L.length) (Hp L.length) a' w' → Ext Φ₀ (Hp 0) w₀ Φ' (Hp L.length) w' → Q .normal a' w') :
    ∀ (fuel : Nat) (listed : Array Bool) (a : Act) (w : World) (Φ : Emb) (m : Nat), Inv D cx G ρ ops N L E Hp Gs K Φ₀ w₀ listed a w Φ m → cnt ops.size listed ≤ fuel →
      wpAny P .any ops Q fuel listed a w := by
  intro fuel
  induction fuel with
  | zero =>
    intro listed a w Φ m I hc
    have hall := cnt_zero (show cnt ops.size listed = 0 by omega)
    refine ⟨?_, ?_⟩
    · cases hr : Region.ready .any ops listed with
      | nil => rfl
      | cons i l =>
        exfalso
        have hi : i ∈ Region.ready .any ops listed := by rw [hr]; simp
        obtain ⟨h1, o, h2, _⟩ := mem_ready.1 hi
        exact unl h1 (hall i (Array.getElem?_eq_some_iff.1 h2).1)
    · obtain ⟨h1, h2⟩ := I.final hP ht hall
      exact hQ Φ a w h1 h2
  | succ fuel ih =>
    intro listed a w Φ m I hc
    refine ⟨fun hr => ?_, fun i hi => ?_⟩
    · obtain ⟨h1, h2⟩ := I.final hP ht (ready_nil hP I.size hr)
      exact hQ Φ a w h1 h2
    · obtain ⟨hun, o, ho, hedge⟩ := mem_ready.1 hi
      have hin : i < ops.size := (Array.getElem?_eq_some_iff.1 ho).1
      obtain ⟨p, d, hd, rfl⟩ := hP.all i hin
      have hno := unl hun
      have hdeps : ∀ j, d.deps.testBit j = true → Lst listed j := by
        intro j hj
        obtain ⟨e, he, hb, h1⟩ := hP.deps p d o hd ho j hj
        have hl := hedge e he hb
        rcases h1 with rfl | ⟨q, d', k1, k2, k3⟩
        · exact hl
        · exact I.closed q d' k1 (by rw [k2]; exact hl) j k3
      obtain ⟨o', ho', hop, hcg, hgd⟩ := hP.op p d hd
      obtain rfl : o = o' := by rw [ho] at ho'; simpa using ho'
      have hE := I.env hP hd hno hdeps
      have hag : ∀ t ∈ d.rd, (E p).get t = (rst (E p) d.rd).get t := fun t h => by rw [rst_get, if_pos h]
      have hwc : wanted (E p) d.guard = wanted (rst (E p) d.rd) d.guard := wanted_congr fun t b h => hag t (hgd t b h)
      have hgE : ∀ t c, d.guard = some (t, c) → ∀ v, (rst (E p) d.rd).get t = some v → ∃ x, a.tmps[t]? = some x ∧ VR ρ Φ v x := fun t c _ v hv => hE t v hv
      have hcnt := cnt_set hin I.size hno
      have hpl := (List.getElem?_eq_some_iff.1 hd).1
      have next : ∀ {a' w' Φ' m'}, Inv D cx G ρ ops N L E Hp Gs K Φ₀ w₀ (listed.setIfInBounds d.no true) a' w' Φ' m' → wpAny P .any ops Q fuel (listed.setIfInBounds d.no true) a' w' :=
        fun I' => ih _ _ _ _ _ I' (by omega)
      unfold wpOp
      simp only [ho]
      rcases ht.step p d hd with ⟨hw, hE1, hH1⟩ | ⟨hw, v, hr, hE1, hfo⟩
      · rw [wanted_ok hop hgE (hwc ▸ hw)]
        simp only [Bool.false_eq_true, if_false]
        rw [← hop.dst]
        cases he : d.op.isEff with
        | false => exact next (I.quiet hP ht hd hno hdeps hin he (.inr (by rw [hw]; simp)) undef_ok hE1)
        | true =>
          obtain ⟨hmp, k1, k2⟩ := I.eff_pre hP ht hd hno hdeps he
          exact next (I.eff hrec hP ht hfr hd hno hdeps hin he (by rw [hH1]; exact k1) (by rw [hH1]; exact Ext.refl _ _ _) undef_ok hE1)
      · rw [wanted_ok hop hgE (hwc ▸ hw)]
        simp only [if_true]
        refine .inl ?_
        cases he : d.op.isEff with
        | true =>
          obtain ⟨hmp, k1, k2⟩ := I.eff_pre hP ht hd hno hdeps he
          have hna : d.op.isAlloc = false := by cases hop : d.op <;> rw [hop] at he <;> first | rfl | cases he
          have hr' : runOp rec (rst (E p) d.rd) (Hp p) (Hp p) d.op = some (v, Hp (p + 1)) := by
            rw [← hr, runOp_eff he _ _ _ (Gs (K p))]
            exact (runOp_congr hcg (fun t h => (hag t h)) _ _).symm
          refine runOp_ok hrec hop.ok k1 hE (I.free hrec hP ht hd hmp hna) hr' ?_
          intro x w' Φ' q1 q2 q3
          rw [← hop.dst]
          exact next (I.eff hrec hP ht hfr hd hno hdeps hin he q2 q3 q1 hE1)
        | false =>
          have hok := hop.ok
          unfold Oper.wp
          cases hop' : d.op with
          | eff r => rw [hop'] at he; cases he
          | call r => rw [hop'] at he; cases he
          | pure r =>
            rw [hop'] at hok hr hcg
            have hc := hcg (E p) (rst (E p) d.rd) hag
            simp only at hc
            simp only [runOp] at hr
            split at hr
            · rename_i u hu
              simp at hr; obtain ⟨rfl, _⟩ := hr
              rw [hc] at hu
              obtain ⟨x, h1, h2⟩ := hok o rfl Φ (Hp m) w _ a _ I.rel hE hu
              rw [h1, Oper.upon_value, ← hop.dst]
              exact next (I.quiet hP ht hd hno hdeps hin (by rw [hop']; rfl) (.inl (by rw [hop']; rfl)) h2 hE1)
            · cases hr
          | read r =>
            rw [hop'] at hok hr hcg
            have hc := hcg (E p) (rst (E p) d.rd) hag
            simp only at hc
            simp only [runOp] at hr
            split at hr
            · rename_i u hu
              simp at hr; obtain ⟨rfl, _⟩ := hr
              have hge : effsIn d.deps L ≤ K m := by
                rw [ht.k_eq hK m I.mle]
                refine effsIn_le fun q d' h1 h2 h3 => ?_
                rcases Nat.lt_or_ge q m with h4 | h4
                · exact h4
                · exact absurd (hdeps _ h3) (I.aft q d' h4 h1 h2)
              have hle : K m ≤ effsTill d.no L := by
                rw [ht.k_eq hK m I.mle]
                refine effsTill_ge fun q d' h1 h2 h3 => ?_
                cases h4 : d'.deps.testBit d.no with
                | false => rfl
                | true => exact absurd (I.closed q d' h2 (I.fore q d' h1 h2 (.inl h3)) _ h4) hno
              have hKn : K m ≤ K L.length := by
                rw [ht.k_eq hK m I.mle, ht.k_eq hK _ (Nat.le_refl _), List.take_length]
                exact (List.take_sublist m L).countP_le
              have hu' := hchk p d r _ hd hop' hw hu (K m) hge hle hKn
              rw [I.at_, hc] at hu'
              obtain ⟨x, h1, h2⟩ := hok o rfl Φ (Hp m) w _ a _ I.rel hE hu'
              rw [h1, Oper.upon_value, ← hop.dst]
              exact next (I.quiet hP ht hd hno hdeps hin (by rw [hop']; rfl) (.inl (by rw [hop']; rfl)) h2 hE1)
            · cases hr
          | fresh y r =>
            rw [hop'] at hok hr hcg hfo
            have hc := hcg (E p) (rst (E p) d.rd) hag
            simp only at hc
            obtain ⟨hc, hcy⟩ := hc
            simp only [runOp] at hr
            split at hr
            · rename_i u hu
              simp at hr; obtain ⟨rfl, _⟩ := hr
              unfold freshOk at hfo
              simp only at hfo
              split at hfo
              case h_2 => cases hfo
              rename_i t
              split at hfo
              · rename_i ad had
                simp only [nble, nblt, Bool.and_eq_true, decide_eq_true_eq] at hfo
                have hcy' : (E p).get t = (rst (E p) d.rd).get t := hcy
                obtain ⟨xa, _, hxa⟩ := hE t _ (hcy' ▸ had)
                obtain ⟨H', R', hH'⟩ := I.fresh hrec hP ht hd (by rw [hop']; rfl) hno hfo.1 hfo.2 (by
                  cases hxa with
                  | ptr hab => obtain ⟨l, hl, _⟩ := hab; exact ⟨_, l, hl⟩)
                have hu' : r (rst (E p) d.rd) H' = some u := by
                  rw [← hc, ← hu]
                  exact hok.2 (E p) H' (Hp p) ad had hH'
                obtain ⟨x, h1, h2⟩ := hok.1 o rfl Φ H' w _ a _ R' hE hu'
                rw [h1, Oper.upon_value, ← hop.dst]
                exact next (I.quiet hP ht hd hno hdeps hin (by rw [hop']; rfl) (.inl (by rw [hop']; rfl)) h2 hE1)
              · cases hfo
            · cases hr
          | alloc r =>
            have ha : d.op.isAlloc = true := by rw [hop']; rfl
            rw [hop'] at hok hr hcg
            have hc := hcg (E p) (rst (E p) d.rd) hag
            simp only at hc
            have hmp := I.alloc_ge hd hno (.inr ha)
            have hfree : ∀ e, Φ (Hp p).next e = none := by
              intro e
              cases hΦ : Φ (Hp p).next e with
              | none => rfl
              | some l =>
                have g1 := tr_rise hrec hP ht hmp (by omega)
                have h4 := tr_alloc_next ht hd ha hw
                have g2 := tr_rise hrec hP ht (show p + 1 ≤ L.length by omega) (Nat.le_refl _)
                obtain ⟨q, d', k1, k2, k3, k4, k5, k6⟩ := I.only _ e l g1 (by omega) hΦ
                have := alloc_ne hrec hP ht hd k2 ha k3 hw k5 k6
                subst this
                obtain rfl := get_same hd k2
                exact absurd k4 hno
            simp only [runOp] at hr
            split at hr
            · rename_i u ob hu
              simp at hr; obtain ⟨rfl, _⟩ := hr
              have hu' := hu
              rw [hc] at hu'
              obtain ⟨x, ro, l, h1, h2, h3, h4⟩ := hok o rfl Φ (Hp m) w _ a _ ob (Hp p).next I.rel hE hfree hu'
              rw [h1, Oper.upon_value, ← hop.dst]
              refine next (I.alloc hrec hP ht hd hno hdeps hin ha hw hfree h2 h3 hE1 ?_)
              intro r2 v2 ob2 h5 h6
              rw [hop'] at h5
              obtain rfl : r = r2 := by simpa using h5
              rw [hu] at h6
              simp at h6
              rw [← h6.2]; exact h4
            · cases hr
end
end Go.Sk
