/-
  SK, PART C. What it means that an abstract heap lies in a world; that a value is one of the model's.
-/
import Derived.Test.YtmncnjolillclaaGreatDoorS01
import Derived.Laws.CopyRow
import Derived.Laws.Cells
namespace Go.Sk

theorem nbeq (a b : Nat) : Nat.beq a b = decide (a = b) := by
  rcases h : Nat.beq a b with _ | _
  · have := Nat.ne_of_beq_eq_false h; simp [this]
  · have := Nat.eq_of_beq_eq_true h; simp [this]
theorem nble (a b : Nat) : Nat.ble a b = decide (a ≤ b) := by
  rcases h : Nat.ble a b with _ | _
  · have : ¬ a ≤ b := fun h' => by rw [Nat.ble_eq_true_of_le h'] at h; cases h
    simp [this]
  · have := Nat.le_of_ble_eq_true h; simp [this]
theorem nblt (a b : Nat) : Nat.blt a b = decide (a < b) := by
  unfold Nat.blt; rw [nble]; rfl
theorem bif_ite {α : Type} (c : Prop) [Decidable c] (x y : α) : (bif decide c then x else y) = if c then x else y := by
  by_cases h : c <;> simp [h]

namespace Tr
variable {α : Type}
theorem get_nil (n : Nat) : (Tr.nil : Tr α).get n = none := rfl
theorem get_node (l : Tr α) (v : Option α) (r : Tr α) (n : Nat) :
    (Tr.node l v r).get n = if n = 0 then v else if n % 2 = 1 then l.get (n / 2) else r.get (n / 2 - 1) := by
  have : (Tr.node l v r).get n = bif Nat.beq n 0 then v else bif Nat.beq (n % 2) 1 then l.get (n / 2) else r.get (n / 2 - 1) := by
    show (Bool.rec (Bool.rec (r.get (n / 2 - 1)) (l.get (n / 2)) (Nat.beq (n % 2) 1)) v (Nat.beq n 0) : Option α) = _
    cases Nat.beq n 0 <;> cases Nat.beq (n % 2) 1 <;> rfl
  rw [this]; simp only [nbeq, bif_ite]
theorem mk_succ (x : Option α) (k n : Nat) : mk x (k + 1) n = if n = 0 then .node .nil x .nil else if n % 2 = 1 then .node (mk x k (n / 2)) none .nil else .node .nil none (mk x k (n / 2 - 1)) := by
  have : mk x (k + 1) n = bif Nat.beq n 0 then .node .nil x .nil else bif Nat.beq (n % 2) 1 then .node (mk x k (n / 2)) none .nil else .node .nil none (mk x k (n / 2 - 1)) := by
    show (Bool.rec (Bool.rec (.node .nil none (mk x k (n / 2 - 1))) (.node (mk x k (n / 2)) none .nil) (Nat.beq (n % 2) 1)) (.node .nil x .nil) (Nat.beq n 0) : Tr α) = _
    cases Nat.beq n 0 <;> cases Nat.beq (n % 2) 1 <;> rfl
  rw [this]; simp only [nbeq, bif_ite]
theorem put_node (l : Tr α) (v : Option α) (r : Tr α) (n : Nat) (x : Option α) :
    (Tr.node l v r).put n x = if n = 0 then .node l x r else if n % 2 = 1 then .node (l.put (n / 2) x) v r else .node l v (r.put (n / 2 - 1) x) := by
  have : (Tr.node l v r).put n x = bif Nat.beq n 0 then .node l x r else bif Nat.beq (n % 2) 1 then .node (l.put (n / 2) x) v r else .node l v (r.put (n / 2 - 1) x) := by
    show (Bool.rec (Bool.rec (.node l v (r.put (n / 2 - 1) x)) (.node (l.put (n / 2) x) v r) (Nat.beq (n % 2) 1)) (.node l x r) (Nat.beq n 0) : Tr α) = _
    cases Nat.beq n 0 <;> cases Nat.beq (n % 2) 1 <;> rfl
  rw [this]; simp only [nbeq, bif_ite]
theorem put_nil (n : Nat) (x : Option α) : (Tr.nil : Tr α).put n x = mk x (n + 1) n := rfl
theorem get_mk (x : Option α) : ∀ (k n m : Nat), n < k → (mk x k n).get m = if m = n then x else none := by
  intro k
  induction k with
  | zero => intro n m h; omega
  | succ k ih =>
    intro n m h
    rw [mk_succ]
    by_cases h0 : n = 0
    · subst h0; simp [get_node, get_nil]
    · rw [if_neg h0]
      by_cases h1 : n % 2 = 1
      · rw [if_pos h1, get_node, ih _ _ (by omega)]
        simp only [get_nil]
        by_cases hm : m = n
        · subst hm; simp [h0, h1]
        · rw [if_neg hm]
          by_cases hm0 : m = 0
          · simp [hm0]
          · by_cases hm1 : m % 2 = 1
            · rw [if_neg hm0, if_pos hm1, if_neg (by omega)]
            · simp [hm0, hm1]
      · rw [if_neg h1, get_node, ih _ _ (by omega)]
        simp only [get_nil]
        by_cases hm : m = n
        · subst hm; simp [h0, h1]
        · rw [if_neg hm]
          by_cases hm0 : m = 0
          · simp [hm0]
          · by_cases hm1 : m % 2 = 1
            · simp [hm0, hm1]
            · rw [if_neg hm0, if_neg hm1, if_neg (by omega)]
theorem get_put (t : Tr α) (n m : Nat) (x : Option α) : (t.put n x).get m = if m = n then x else t.get m := by
  induction t generalizing n m with
  | nil => rw [put_nil, get_mk _ _ _ _ (by omega), get_nil]
  | node l v r ihl ihr =>
    rw [put_node]
    by_cases h0 : n = 0
    · subst h0
      rw [if_pos rfl, get_node, get_node]
      by_cases hm : m = 0 <;> simp [hm]
    · rw [if_neg h0]
      by_cases h1 : n % 2 = 1
      · rw [if_pos h1, get_node, get_node, ihl]
        by_cases hm : m = n
        · subst hm; simp [h0, h1]
        · rw [if_neg hm]
          by_cases hm0 : m = 0
          · simp [hm0]
          · by_cases hm1 : m % 2 = 1
            · rw [if_neg hm0, if_pos hm1, if_neg (by omega), if_neg hm0, if_pos hm1]
            · simp [hm0, hm1]
      · rw [if_neg h1, get_node, get_node, ihr]
        by_cases hm : m = n
        · subst hm; simp [h0, h1]
        · rw [if_neg hm]
          by_cases hm0 : m = 0
          · simp [hm0]
          · by_cases hm1 : m % 2 = 1
            · simp [hm0, hm1]
            · rw [if_neg hm0, if_neg hm1, if_neg (by omega), if_neg hm0, if_neg hm1]
end Tr

/-! ### What integers stand for -/
def opInt (o : BinOp) (k : IntKind) (x y : Int) : Int :=
  match o with
  | .add => k.wrap (x + y)
  | .sub => k.wrap (x - y)
  | .mul => k.wrap (x * y)
  | .quo => k.wrap (x.tdiv y)
  | .rem => x.tmod y
  | _ => 0
def IE.ev (ρ : Nat → Int) : IE → Int
  | .lit n => n
  | .var i => ρ i
  | .op o k a b => opInt o k (a.ev ρ) (b.ev ρ)
def cmpInt (o : BinOp) (x y : Int) : Bool :=
  match o with
  | .eql => x == y
  | .neq => x != y
  | .lss => decide (x < y)
  | .leq => decide (x ≤ y)
  | .gtr => decide (x > y)
  | .geq => decide (x ≥ y)
  | _ => false

/-! ### Places and values -/
/-- Where a family's cells lie at an epoch: the block, how far they are shifted, how many cells the block has. 'row': it is a row of cells. -/
structure Loc where
  blk : Nat
  sh : Int
  size : Nat
  row : Bool
abbrev Emb := Nat → Nat → Option Loc

def AR (Φ : Emb) (a : DA) (b : Addr) : Prop := ∃ l, Φ a.fam a.ep = some l ∧ b.block = l.blk ∧ (b.off : Int) = a.off + l.sh ∧ b.spot = none ∧ l.row = true

mutual
inductive VR (ρ : Nat → Int) (Φ : Emb) : V → Value → Prop
  | bool (b : Bool) : VR ρ Φ (.bool b) (.bool b)
  | int (k : IntKind) (e : IE) : VR ρ Φ (.int k e) (.int k (e.ev ρ))
  | str (s : ByteArray) : VR ρ Φ (.str (s.data.toList.map UInt8.toNat)) (.string s)
  | nilptr : VR ρ Φ (.ptr none) (.pointer none)
  | ptr {a : DA} {b : Addr} (h : AR Φ a b) : VR ρ Φ (.ptr (some a)) (.pointer (some b))
  | gptr (g o : Nat) : VR ρ Φ (.gptr g o) (.pointer (some ⟨g, o, none⟩))
  | nilslice (z : Nat) : VR ρ Φ (.slice none 0 z) (.slice none 0 0)
  | slice {a : DA} {b : Addr} {n c z : Nat} {l : Loc} (h : AR Φ a b) (hl : Φ a.fam a.ep = some l) (hn : n ≤ c) (hr : b.off + c * z ≤ l.size) :
      VR ρ Φ (.slice (some a) n z) (.slice (some b) n c)
  | slice0 (a : DA) (b : Addr) (z : Nat) : VR ρ Φ (.slice (some a) 0 z) (.slice (some b) 0 0)
  | nilmap : VR ρ Φ (.map none) (.map none)
  | map {r : Nat} {l : Loc} (h : Φ r 0 = some l) : VR ρ Φ (.map (some r)) (.map (some l.blk))
  | iter {r : Nat} {l : Loc} (h : Φ r 0 = some l) : VR ρ Φ (.iter r) (.pointer (some ⟨l.blk, 0, none⟩))
  | func {fn : Fn} {a b : List V} {x y : Array Value} (h : VRs ρ Φ a x.toList) (h' : VRs ρ Φ b y.toList) : VR ρ Φ (.func fn a b) (.func fn x y)
  | nilFunc : VR ρ Φ .nilFunc .nilFunc
  | iface {t : Nat} {v : V} {w : Value} (h : VR ρ Φ v w) : VR ρ Φ (.iface t v) (.iface t w)
  | nilIface : VR ρ Φ .nilIface .nilIface
  | agg {cs : List V} {xs : Array Value} (h : VRs ρ Φ cs xs.toList) : VR ρ Φ (.agg cs) (.agg xs)
  | tuple {cs : List V} {xs : Array Value} (h : VRs ρ Φ cs xs.toList) : VR ρ Φ (.tuple cs) (.tuple xs)
  | abool (b : Bool) : VR ρ Φ .abool (.bool b)
inductive VRs (ρ : Nat → Int) (Φ : Emb) : List V → List Value → Prop
  | nil : VRs ρ Φ [] []
  | cons {v : V} {x : Value} {vs : List V} {xs : List Value} (h : VR ρ Φ v x) (h' : VRs ρ Φ vs xs) : VRs ρ Φ (v :: vs) (x :: xs)
end

def Emb.le (Φ Φ' : Emb) : Prop := ∀ f e l, Φ f e = some l → Φ' f e = some l
theorem AR.le {Φ Φ' : Emb} (h : Φ.le Φ') {a : DA} {b : Addr} (x : AR Φ a b) : AR Φ' a b := by
  obtain ⟨l, h1, h2⟩ := x; exact ⟨l, h _ _ _ h1, h2⟩
mutual
theorem VR.le {ρ : Nat → Int} {Φ Φ' : Emb} (h : Φ.le Φ') {v : V} {x : Value} (r : VR ρ Φ v x) : VR ρ Φ' v x := by
  cases r with
  | bool b => exact .bool b
  | int k e => exact .int k e
  | str s => exact .str s
  | nilptr => exact .nilptr
  | ptr a => exact .ptr (a.le h)
  | gptr g o => exact .gptr g o
  | nilslice z => exact .nilslice z
  | slice a hl hn hr => exact .slice (a.le h) (h _ _ _ hl) hn hr
  | slice0 a b z => exact .slice0 a b z
  | nilmap => exact .nilmap
  | map a => exact .map (h _ _ _ a)
  | iter a => exact .iter (h _ _ _ a)
  | func a b => exact .func (VRs.le h a) (VRs.le h b)
  | nilFunc => exact .nilFunc
  | iface a => exact .iface (VR.le h a)
  | nilIface => exact .nilIface
  | agg a => exact .agg (VRs.le h a)
  | tuple a => exact .tuple (VRs.le h a)
  | abool b => exact .abool b
theorem VRs.le {ρ : Nat → Int} {Φ Φ' : Emb} (h : Φ.le Φ') {vs : List V} {xs : List Value} (r : VRs ρ Φ vs xs) : VRs ρ Φ' vs xs := by
  cases r with
  | nil => exact .nil
  | cons a b => exact .cons (VR.le h a) (VRs.le h b)
end

namespace VRs
variable {ρ : Nat → Int} {Φ : Emb}
theorem length {vs : List V} {xs : List Value} (r : VRs ρ Φ vs xs) : vs.length = xs.length := by
  induction vs generalizing xs with
  | nil => cases r; rfl
  | cons v vs ih => cases r with | cons _ b => simp [ih b]
theorem get {vs : List V} {xs : List Value} (r : VRs ρ Φ vs xs) {i : Nat} {v : V} (h : vs[i]? = some v) : ∃ x, xs[i]? = some x ∧ VR ρ Φ v x := by
  induction vs generalizing xs i with
  | nil => simp at h
  | cons u vs ih =>
    cases r with
    | cons a b =>
      cases i with
      | zero => simp at h; subst h; exact ⟨_, rfl, a⟩
      | succ i => simpa using ih b (by simpa using h)
theorem append {vs us : List V} {xs ys : List Value} (r : VRs ρ Φ vs xs) (s : VRs ρ Φ us ys) : VRs ρ Φ (vs ++ us) (xs ++ ys) := by
  induction vs generalizing xs with
  | nil => cases r; exact s
  | cons v vs ih => cases r with | cons a b => exact .cons a (ih b)
theorem drop {vs : List V} {xs : List Value} (r : VRs ρ Φ vs xs) (n : Nat) : VRs ρ Φ (vs.drop n) (xs.drop n) := by
  induction n generalizing vs xs with
  | zero => simpa using r
  | succ n ih => cases r with
    | nil => simpa using VRs.nil
    | cons a b => simpa using ih b
theorem take {vs : List V} {xs : List Value} (r : VRs ρ Φ vs xs) (n : Nat) : VRs ρ Φ (vs.take n) (xs.take n) := by
  induction n generalizing vs xs with
  | zero => simpa using VRs.nil
  | succ n ih => cases r with
    | nil => simpa using VRs.nil
    | cons a b => simpa using VRs.cons a (ih b)
theorem set {vs : List V} {xs : List Value} (r : VRs ρ Φ vs xs) (n : Nat) {v : V} {x : Value} (h : VR ρ Φ v x) : VRs ρ Φ (vs.set n v) (xs.set n x) := by
  induction n generalizing vs xs with
  | zero => cases r with
    | nil => simpa using VRs.nil
    | cons a b => simpa using VRs.cons h b
  | succ n ih => cases r with
    | nil => simpa using VRs.nil
    | cons a b => simpa using VRs.cons a (ih b)
/-- Lists are related if their elements are. -/
theorem of_get {vs : List V} {xs : List Value} (hl : vs.length = xs.length) (h : ∀ (i : Nat) (v : V) (x : Value), vs[i]? = some v → xs[i]? = some x → VR ρ Φ v x) : VRs ρ Φ vs xs := by
  induction vs generalizing xs with
  | nil => cases xs with | nil => exact .nil | cons _ _ => simp at hl
  | cons v vs ih =>
    cases xs with
    | nil => simp at hl
    | cons x xs => exact .cons (h 0 v x rfl rfl) (ih (by simpa using hl) fun i v x h1 h2 => h (i + 1) v x (by simpa using h1) (by simpa using h2))
end VRs

/-! ### The heap in the world -/
/-- A pair of a map's entries. -/
inductive EntR (ρ : Nat → Int) (Φ : Emb) : List (V × V × Nat) → List MapEntry → Prop
  | nil : EntR ρ Φ [] []
  | cons {k v : V} {b : Nat} {x y : Value} {es : List (V × V × Nat)} {rs : List MapEntry} (hk : VR ρ Φ k x) (hv : VR ρ Φ v y) (h : EntR ρ Φ es rs) :
      EntR ρ Φ ((k, v, b) :: es) (⟨x, y, b⟩ :: rs)
theorem EntR.le {ρ : Nat → Int} {Φ Φ' : Emb} (h : Φ.le Φ') {es : List (V × V × Nat)} {rs : List MapEntry} (r : EntR ρ Φ es rs) : EntR ρ Φ' es rs := by
  induction r with
  | nil => exact .nil
  | cons hk hv _ ih => exact .cons (hk.le h) (hv.le h) ih

/-- A family's cells at one epoch. -/
def CellsR (ρ : Nat → Int) (Φ : Emb) (w : World) (m : Fam) (e : Nat) (l : Loc) : Prop :=
  ∃ arr t, w.heap[l.blk]? = some (.cells arr t (0, 0)) ∧ arr.size = l.size ∧
    ∀ p v lo, p < m.size → m.cells.get p = some (v, lo) → lo ≤ e → ∀ q : Nat, (q : Int) = p + l.sh → ∃ x, arr[q]? = some x ∧ VR ρ Φ v x ∧ x.oneCell' = true
def ObjR (ρ : Nat → Int) (Φ : Emb) (w : World) (f : Nat) : Obj → Prop
  | .cells m => (∀ e, m.ep < e → Φ f e = none) ∧ (∀ p v lo, p < m.size → m.cells.get p = some (v, lo) → lo ≤ m.ep) ∧
      (∀ l, Φ f m.ep = some l → ∀ p, p < m.size → ∀ q : Nat, (q : Int) = p + l.sh → q < l.size) ∧
      ∀ e, e ≤ m.ep → ∃ l, Φ f e = some l ∧ l.row = true ∧ CellsR ρ Φ w m e l
  | .map es clock => (∀ e, 0 < e → Φ f e = none) ∧ ∃ l res, Φ f 0 = some l ∧ l.row = false ∧ w.heap[l.blk]? = some (.map res clock) ∧ EntR ρ Φ es res.toList
  | .miter none since seen stepped => (∀ e, 0 < e → Φ f e = none) ∧ ∃ l, Φ f 0 = some l ∧ l.row = false ∧ w.heap[l.blk]? = some (.mapIter none since seen.toArray stepped)
  | .miter (some r) since seen stepped => (∀ e, 0 < e → Φ f e = none) ∧ ∃ l lm, Φ f 0 = some l ∧ l.row = false ∧ Φ r 0 = some lm ∧ w.heap[l.blk]? = some (.mapIter (some lm.blk) since seen.toArray stepped)
  | .siter _ _ => False

structure Rel (cx : Cx) (G : Nat) (ρ : Nat → Int) (Φ : Emb) (H : Heap) (w : World) : Prop where
  obj : ∀ f o, H.objs.get f = some o → ObjR ρ Φ w f o
  inj : ∀ f e l f' e' l', Φ f e = some l → Φ f' e' = some l' → l.blk = l'.blk → f = f' ∧ l = l'
  dom : ∀ f e l, Φ f e = some l → l.blk < w.heap.size ∧ G ≤ l.blk
  glob : ∀ g o v, cx.glob g o = some v → g < G ∧ ∃ x, w.cell? ⟨g, o, none⟩ = some x ∧ VR ρ Φ v x
  asm : ∀ o a b r, (o, a, b, r) ∈ cx.asm → cmpInt o (a.ev ρ) (b.ev ρ) = r
  old : ∀ f o, H.objs.get f = some o → f < H.next
  sz : G ≤ w.heap.size
  kind : ∀ f e l, Φ f e = some l → l.row = true → ∃ arr t, w.heap[l.blk]? = some (.cells arr t (0, 0))

/-- Owned: a block where an object of the heap lies. -/
def Owned (Φ : Emb) (H : Heap) (b : Nat) : Prop := ∃ f e l, H.objs.get f ≠ none ∧ Φ f e = some l ∧ l.blk = b

/-- What no operation touches: the outside world, what was written out, which cells are frozen. -/
structure Outer (w w' : World) : Prop where
  os : w'.os = w.os
  out : w'.output = w.output
  tape : w'.tape = w.tape
  drawn : w.drawn ≤ w'.drawn
theorem Outer.refl (w : World) : Outer w w := ⟨rfl, rfl, rfl, Nat.le_refl _⟩
theorem Outer.trans {w w₁ w₂ : World} (x : Outer w w₁) (y : Outer w₁ w₂) : Outer w w₂ := ⟨y.os.trans x.os, y.out.trans x.out, y.tape.trans x.tape, Nat.le_trans x.drawn y.drawn⟩
structure Same (w w' : World) : Prop extends Outer w w' where
  size : w.heap.size ≤ w'.heap.size
  froz : ∀ a, a.block < w.heap.size → w'.frozen? a = w.frozen? a
theorem Same.refl (w : World) : Same w w := ⟨.refl w, Nat.le_refl _, fun _ _ => rfl⟩
theorem Same.trans {w w₁ w₂ : World} (x : Same w w₁) (y : Same w₁ w₂) : Same w w₂ := ⟨x.toOuter.trans y.toOuter, Nat.le_trans x.size y.size, fun a h => (y.froz a (Nat.lt_of_lt_of_le h x.size)).trans (x.froz a h)⟩
def Soft (o : Option Go.Obj) : Prop := ∀ c t fr, o = some (.cells c t fr) → fr = (0, 0)
theorem Soft.froz {w : World} {a : Addr} (h : Soft w.heap[a.block]?) : w.frozen? a = false := by
  unfold World.frozen?
  split
  · rename_i c t lo hi he
    have := h _ _ _ he
    simp only [Prod.mk.injEq] at this
    obtain ⟨rfl, rfl⟩ := this
    simp
  · rfl
theorem Same.of {w w' : World} (h1 : Outer w w') (hg : w.heap.size ≤ w'.heap.size) (h : ∀ b : Nat, w'.heap[b]? = w.heap[b]? ∨ (Soft w'.heap[b]? ∧ Soft w.heap[b]?)) : Same w w' := by
  refine ⟨h1, hg, fun a _ => ?_⟩
  rcases h a.block with h | ⟨h3, h4⟩
  · unfold World.frozen?; rw [h]
  · rw [h3.froz, h4.froz]
theorem ObjR.soft {ρ : Nat → Int} {Φ : Emb} {w : World} {f e : Nat} {o : Obj} {l : Loc} (h : ObjR ρ Φ w f o) (hl : Φ f e = some l) : Soft w.heap[l.blk]? := by
  intro c t fr hc
  cases o with
  | cells m =>
    obtain ⟨h1, _, _, h3⟩ := h
    have hle : e ≤ m.ep := by
      rcases Nat.lt_or_ge m.ep e with h4 | h4
      · rw [h1 e h4] at hl; cases hl
      · exact h4
    obtain ⟨l', g1, _, arr, t', g2, _⟩ := h3 e hle
    rw [hl] at g1
    obtain rfl : l = l' := by simpa using g1
    rw [hc] at g2
    simp only [Option.some.injEq, Go.Obj.cells.injEq] at g2
    exact g2.2.2
  | map es clock =>
    obtain ⟨h0, l', res, g1, _, g2, _⟩ := h
    have : e = 0 := by
      rcases Nat.eq_zero_or_pos e with h4 | h4
      · exact h4
      · rw [h0 e h4] at hl; cases hl
    subst this
    rw [hl] at g1
    obtain rfl : l = l' := by simpa using g1
    rw [hc] at g2; cases g2
  | miter m since seen stepped =>
    cases m with
    | none =>
      obtain ⟨h0, l', g1, _, g2⟩ := h
      have : e = 0 := by
        rcases Nat.eq_zero_or_pos e with h4 | h4
        · exact h4
        · rw [h0 e h4] at hl; cases hl
      subst this
      rw [hl] at g1
      obtain rfl : l = l' := by simpa using g1
      rw [hc] at g2; cases g2
    | some r =>
      obtain ⟨h0, l', lm, g1, _, _, g2⟩ := h
      have : e = 0 := by
        rcases Nat.eq_zero_or_pos e with h4 | h4
        · exact h4
        · rw [h0 e h4] at hl; cases hl
      subst this
      rw [hl] at g1
      obtain rfl : l = l' := by simpa using g1
      rw [hc] at g2; cases g2
  | siter s pos => exact h.elim

structure Ext (Φ : Emb) (H : Heap) (w : World) (Φ' : Emb) (H' : Heap) (w' : World) : Prop where
  same : Same w w'
  le : Φ.le Φ'
  far : ∀ f, H'.next ≤ f → Φ' f = Φ f
  frame : ∀ b, b < w.heap.size → ¬ Owned Φ H b → w'.heap[b]? = w.heap[b]?
  grow : w.heap.size ≤ w'.heap.size
  new : ∀ f e l, Φ' f e = some l → Φ f e = none → w.heap.size ≤ l.blk ∨ ∃ e0, Φ f e0 = some l ∧ H.objs.get f ≠ none
  next : H.next ≤ H'.next
  objs : ∀ f, H'.objs.get f ≠ none → H.objs.get f ≠ none ∨ (H.next ≤ f ∧ f < H'.next)

/-- The families that a run makes are not taken yet. -/
def Free (Φ : Emb) (m n : Nat) : Prop := ∀ f e, m ≤ f → f < n → Φ f e = none

theorem Ext.refl (Φ : Emb) (H : Heap) (w : World) : Ext Φ H w Φ H w where
  same := .refl w
  le := fun _ _ _ h => h
  far := fun _ _ => rfl
  frame := fun _ _ _ => rfl
  grow := Nat.le_refl _
  new := fun f e l h h' => by rw [h] at h'; cases h'
  next := Nat.le_refl _
  objs := fun f h => .inl h

theorem Ext.owned {Φ Φ' : Emb} {H H' : Heap} {w w' : World} (x : Ext Φ H w Φ' H' w') (hf : Free Φ H.next H'.next) {b : Nat} (hb : b < w.heap.size)
    (h : ¬ Owned Φ H b) : ¬ Owned Φ' H' b := by
  rintro ⟨f, e, l, ho, hl, rfl⟩
  cases hΦ : Φ f e with
  | some l0 =>
    have := x.le _ _ _ hΦ
    rw [this] at hl
    obtain rfl : l0 = l := by simpa using hl
    rcases x.objs f ho with h1 | ⟨h1, h2⟩
    · exact h ⟨f, e, l0, h1, hΦ, rfl⟩
    · rw [hf f e h1 h2] at hΦ; cases hΦ
  | none =>
    rcases x.new f e l hl hΦ with h1 | ⟨e0, h1, h2⟩
    · omega
    · exact h ⟨f, e0, l, h2, h1, rfl⟩

theorem Free.split {Φ Φ₁ : Emb} {H H₁ H₂ : Heap} {w w₁ : World} (x : Ext Φ H w Φ₁ H₁ w₁) (h12 : H₁.next ≤ H₂.next) (hf : Free Φ H.next H₂.next) :
    Free Φ H.next H₁.next ∧ Free Φ₁ H₁.next H₂.next :=
  ⟨fun f e h1 h2 => hf f e h1 (Nat.lt_of_lt_of_le h2 h12), fun f e h1 h2 => by rw [x.far f h1]; exact hf f e (Nat.le_trans x.next h1) h2⟩

theorem Ext.trans {Φ Φ₁ Φ₂ : Emb} {H H₁ H₂ : Heap} {w w₁ w₂ : World} (hf : Free Φ H.next H₁.next) (x : Ext Φ H w Φ₁ H₁ w₁) (y : Ext Φ₁ H₁ w₁ Φ₂ H₂ w₂) :
    Ext Φ H w Φ₂ H₂ w₂ where
  same := x.same.trans y.same
  le := fun f e l h => y.le _ _ _ (x.le _ _ _ h)
  far := fun f h => (y.far f h).trans (x.far f (Nat.le_trans y.next h))
  frame := fun b hb ho => (y.frame b (Nat.lt_of_lt_of_le hb x.grow) (x.owned hf hb ho)).trans (x.frame b hb ho)
  grow := Nat.le_trans x.grow y.grow
  new := by
    intro f e l h h'
    cases h1 : Φ₁ f e with
    | some l1 =>
      have := y.le _ _ _ h1
      rw [this] at h
      obtain rfl : l1 = l := by simpa using h
      exact x.new f e l1 h1 h'
    | none =>
      rcases y.new f e l h h1 with h2 | ⟨e0, h2, h3⟩
      · exact .inl (Nat.le_trans x.grow h2)
      · cases h4 : Φ f e0 with
        | some l4 =>
          have := x.le _ _ _ h4
          rw [this] at h2
          obtain rfl : l4 = l := by simpa using h2
          rcases x.objs f h3 with h5 | ⟨h5, h6⟩
          · exact .inr ⟨e0, h4, h5⟩
          · rw [hf f e0 h5 h6] at h4; cases h4
        | none => exact x.new f e0 l h2 h4
  next := Nat.le_trans x.next y.next
  objs := by
    intro f h
    rcases y.objs f h with h1 | ⟨h1, h2⟩
    · rcases x.objs f h1 with h3 | ⟨h3, h4⟩
      · exact .inl h3
      · exact .inr ⟨h3, Nat.lt_of_lt_of_le h4 y.next⟩
    · exact .inr ⟨Nat.le_trans x.next h1, h2⟩

theorem CellsR.keep {ρ : Nat → Int} {Φ Φ' : Emb} {w w' : World} {m : Fam} {e : Nat} {l : Loc} (h : CellsR ρ Φ w m e l) (hle : Φ.le Φ')
    (hb : w'.heap[l.blk]? = w.heap[l.blk]?) : CellsR ρ Φ' w' m e l := by
  obtain ⟨arr, t, h1, h2, h3⟩ := h
  refine ⟨arr, t, hb.trans h1, h2, fun p v lo hp hg hlo q hq => ?_⟩
  obtain ⟨x, hx, hv, ho⟩ := h3 p v lo hp hg hlo q hq
  exact ⟨x, hx, hv.le hle, ho⟩

theorem ObjR.keep {ρ : Nat → Int} {Φ Φ' : Emb} {w w' : World} {f : Nat} {o : Obj} (h : ObjR ρ Φ w f o) (hle : Φ.le Φ') (hf : Φ' f = Φ f)
    (hb : ∀ e l, Φ f e = some l → w'.heap[l.blk]? = w.heap[l.blk]?) : ObjR ρ Φ' w' f o := by
  cases o with
  | cells m =>
    obtain ⟨h1, h2, h2', h3⟩ := h
    refine ⟨fun e he => by rw [hf]; exact h1 e he, h2, fun l hl => h2' l (by rw [← hf]; exact hl), fun e he => ?_⟩
    obtain ⟨l, hl, hr, hc⟩ := h3 e he
    exact ⟨l, hle _ _ _ hl, hr, hc.keep hle (hb e l hl)⟩
  | map es clock =>
    obtain ⟨h0, l, res, h1, hr, h2, h3⟩ := h
    exact ⟨fun e he => by rw [hf]; exact h0 e he, l, res, hle _ _ _ h1, hr, (hb 0 l h1).trans h2, h3.le hle⟩
  | miter m since seen stepped =>
    cases m with
    | none => obtain ⟨h0, l, h1, hr, h2⟩ := h; exact ⟨fun e he => by rw [hf]; exact h0 e he, l, hle _ _ _ h1, hr, (hb 0 l h1).trans h2⟩
    | some r => obtain ⟨h0, l, lm, h1, hr, h2, h3⟩ := h; exact ⟨fun e he => by rw [hf]; exact h0 e he, l, lm, hle _ _ _ h1, hr, hle _ _ _ h2, (hb 0 l h1).trans h3⟩
  | siter s pos => exact h

theorem World.cell_of_heap {w w' : World} {a : Addr} (h : w'.heap[a.block]? = w.heap[a.block]?) : w'.cell? a = w.cell? a := by
  simp [World.cell?, h]

/-- One family's object is laid anew, or made: all that may turn in the world. -/
theorem Rel.change' {cx : Cx} {G : Nat} {ρ : Nat → Int} {Φ Φ' : Emb} {H H' : Heap} {w w' : World} {f : Nat} {o' : Obj} (R : Rel cx G ρ Φ H w)
    (hobjs : H'.objs = H.objs.put f (some o')) (hnext : H.next ≤ H'.next) (hf : f < H'.next) (hfo : H.objs.get f ≠ none ∨ H.next ≤ f)
    (hle : Φ.le Φ') (hother : ∀ g, g ≠ f → Φ' g = Φ g) (hgrow : w.heap.size ≤ w'.heap.size)
    (hsame : ∀ b, b < w.heap.size → (∀ e l, Φ f e = some l → l.blk ≠ b) → w'.heap[b]? = w.heap[b]?)
    (hnew : ∀ e l, Φ' f e = some l → Φ f e = none → (w.heap.size ≤ l.blk ∧ l.blk < w'.heap.size ∧ G ≤ l.blk) ∨ ∃ e0, Φ f e0 = some l ∧ H.objs.get f ≠ none)
    (huniq : ∀ e l e' l', Φ' f e = some l → Φ' f e' = some l' → l.blk = l'.blk → l = l')
    (hfree : H.objs.get f = none → ∀ e, Φ f e = none)
    (ho : ObjR ρ Φ' w' f o') (hSame : Same w w') : Rel cx G ρ Φ' H' w' ∧ Ext Φ H w Φ' H' w' := by
  have hcross : ∀ g e l e' l', g ≠ f → Φ g e = some l → Φ' f e' = some l' → l.blk ≠ l'.blk := by
    intro g e l e' l' hg h1 h2 hb
    cases h3 : Φ f e' with
    | some l3 =>
      have := hle _ _ _ h3
      rw [this] at h2
      obtain rfl : l3 = l' := by simpa using h2
      exact hg (R.inj _ _ _ _ _ _ h1 h3 hb).1
    | none =>
      rcases hnew e' l' h2 h3 with ⟨h4, _⟩ | ⟨e0, h4, _⟩
      · have := (R.dom _ _ _ h1).1; omega
      · exact hg (R.inj _ _ _ _ _ _ h1 h4 hb).1
  refine ⟨⟨?_, ?_, ?_, ?_, R.asm, ?_, Nat.le_trans R.sz hgrow, ?_⟩, ⟨hSame, hle, ?_, ?_, hgrow, ?_, hnext, ?_⟩⟩
  · intro g o hg
    rw [hobjs, Tr.get_put] at hg
    by_cases h : g = f
    · subst h; simp at hg; subst hg; exact ho
    · rw [if_neg h] at hg
      refine (R.obj g o hg).keep hle (hother g h) fun e l hl => hsame _ (R.dom _ _ _ hl).1 fun e' l' hl' => ?_
      exact fun hb => hcross g e l e' l' h hl (hle _ _ _ hl') hb.symm
  · intro g e l g' e' l' h1 h2 hb
    by_cases hg : g = f
    · by_cases hg' : g' = f
      · subst hg; subst hg'; exact ⟨rfl, huniq _ _ _ _ h1 h2 hb⟩
      · subst hg; rw [hother g' hg'] at h2; exact absurd hb.symm (hcross g' e' l' e l hg' h2 h1)
    · rw [hother g hg] at h1
      by_cases hg' : g' = f
      · subst hg'; exact absurd hb (hcross g e l e' l' hg h1 h2)
      · rw [hother g' hg'] at h2; exact R.inj _ _ _ _ _ _ h1 h2 hb
  · intro g e l h1
    by_cases hg : g = f
    · subst hg
      cases h3 : Φ g e with
      | some l3 =>
        have := hle _ _ _ h3
        rw [this] at h1
        obtain rfl : l3 = l := by simpa using h1
        have := R.dom _ _ _ h3; omega
      | none =>
        rcases hnew e l h1 h3 with ⟨_, h5, h6⟩ | ⟨e0, h4, _⟩
        · exact ⟨h5, h6⟩
        · have := R.dom _ _ _ h4; omega
    · rw [hother g hg] at h1; have := R.dom _ _ _ h1; omega
  · intro g o v hg
    obtain ⟨h1, x, h2, h3⟩ := R.glob g o v hg
    refine ⟨h1, x, ?_, h3.le hle⟩
    have hlt : g < w.heap.size := by
      rcases Nat.lt_or_ge g w.heap.size with h | h
      · exact h
      · simp [World.cell?, Array.getElem?_eq_none h] at h2
    rw [World.cell_of_heap (w := w)]
    · exact h2
    · exact hsame g hlt fun e l hl hb => by have := (R.dom _ _ _ hl).2; omega
  · intro g o hg
    rw [hobjs, Tr.get_put] at hg
    by_cases h : g = f
    · subst h; exact hf
    · rw [if_neg h] at hg; exact Nat.lt_of_lt_of_le (R.old g o hg) hnext
  · intro g e l h1 hr
    by_cases hg : g = f
    · subst hg
      cases o' with
      | cells m =>
        obtain ⟨k1, _, _, k3⟩ := ho
        have he : e ≤ m.ep := by
          rcases Nat.lt_or_ge m.ep e with h | h
          · rw [k1 e h] at h1; cases h1
          · exact h
        obtain ⟨l2, k4, _, arr, t, k5, _⟩ := k3 e he
        rw [h1] at k4
        obtain rfl : l = l2 := by simpa using k4
        exact ⟨arr, t, k5⟩
      | map es clock =>
        obtain ⟨k0, l2, _, k1, k2, _⟩ := ho
        rcases Nat.eq_zero_or_pos e with h | h
        · subst h; rw [h1] at k1; obtain rfl : l = l2 := by simpa using k1
          rw [hr] at k2; cases k2
        · rw [k0 e h] at h1; cases h1
      | miter mm since seen stepped =>
        cases mm with
        | none =>
          obtain ⟨k0, l2, k1, k2, _⟩ := ho
          rcases Nat.eq_zero_or_pos e with h | h
          · subst h; rw [h1] at k1; obtain rfl : l = l2 := by simpa using k1
            rw [hr] at k2; cases k2
          · rw [k0 e h] at h1; cases h1
        | some r =>
          obtain ⟨k0, l2, _, k1, k2, _⟩ := ho
          rcases Nat.eq_zero_or_pos e with h | h
          · subst h; rw [h1] at k1; obtain rfl : l = l2 := by simpa using k1
            rw [hr] at k2; cases k2
          · rw [k0 e h] at h1; cases h1
      | siter s pos => exact ho.elim
    · rw [hother g hg] at h1
      obtain ⟨arr, t, k⟩ := R.kind g e l h1 hr
      refine ⟨arr, t, (hsame _ (R.dom _ _ _ h1).1 fun e' l' hl' => ?_).trans k⟩
      exact fun hb => hcross g e l e' l' hg h1 (hle _ _ _ hl') hb.symm
  · intro g hg; exact hother g (by omega)
  · intro b hb ho
    refine hsame b hb fun e l hl hbl => ?_
    rcases Classical.em (H.objs.get f = none) with h | h
    · rw [hfree h e] at hl; cases hl
    · exact ho ⟨f, e, l, h, hl, hbl⟩
  · intro g e l h1 h2
    by_cases hg : g = f
    · subst hg
      rcases hnew e l h1 h2 with ⟨h3, _⟩ | h3
      · exact .inl h3
      · exact .inr h3
    · rw [hother g hg] at h1; rw [h1] at h2; cases h2
  · intro g hg
    rw [hobjs, Tr.get_put] at hg
    by_cases h : g = f
    · subst h
      rcases hfo with h1 | h1
      · exact .inl h1
      · exact .inr ⟨h1, hf⟩
    · rw [if_neg h] at hg; exact .inl hg

theorem Rel.change {cx : Cx} {G : Nat} {ρ : Nat → Int} {Φ Φ' : Emb} {H H' : Heap} {w w' : World} {f : Nat} {o' : Obj} (R : Rel cx G ρ Φ H w)
    (hobjs : H'.objs = H.objs.put f (some o')) (hnext : H.next ≤ H'.next) (hf : f < H'.next) (hfo : H.objs.get f ≠ none ∨ H.next ≤ f)
    (hle : Φ.le Φ') (hother : ∀ g, g ≠ f → Φ' g = Φ g) (hgrow : w.heap.size ≤ w'.heap.size)
    (hsame : ∀ b, b < w.heap.size → (∀ e l, Φ f e = some l → l.blk ≠ b) → w'.heap[b]? = w.heap[b]?)
    (hnew : ∀ e l, Φ' f e = some l → Φ f e = none → (w.heap.size ≤ l.blk ∧ l.blk < w'.heap.size ∧ G ≤ l.blk) ∨ ∃ e0, Φ f e0 = some l ∧ H.objs.get f ≠ none)
    (huniq : ∀ e l e' l', Φ' f e = some l → Φ' f e' = some l' → l.blk = l'.blk → l = l')
    (hfree : H.objs.get f = none → ∀ e, Φ f e = none)
    (ho : ObjR ρ Φ' w' f o') (hos : Outer w w') (hcov : ∀ b, w.heap.size ≤ b → b < w'.heap.size → ∃ e l, Φ' f e = some l ∧ l.blk = b) : Rel cx G ρ Φ' H' w' ∧ Ext Φ H w Φ' H' w' := by
  have hSame : Same w w' := by
    refine .of hos hgrow fun b => ?_
    rcases Nat.lt_or_ge b w.heap.size with hb | hb
    · rcases Classical.em (∀ e l, Φ f e = some l → l.blk ≠ b) with h | h
      · exact .inl (hsame b hb h)
      · have : ∃ e l, Φ f e = some l ∧ l.blk = b := by
          apply Classical.byContradiction
          intro hn
          exact h fun e l h1 h2 => hn ⟨e, l, h1, h2⟩
        obtain ⟨e, l, h1, rfl⟩ := this
        refine .inr ⟨ho.soft (hle _ _ _ h1), ?_⟩
        cases hg : H.objs.get f with
        | none => rw [hfree hg e] at h1; cases h1
        | some o => exact (R.obj f o hg).soft h1
    · refine .inr ⟨?_, ?_⟩
      · rcases Nat.lt_or_ge b w'.heap.size with hb' | hb'
        · obtain ⟨e, l, h1, rfl⟩ := hcov b hb hb'
          exact ho.soft h1
        · intro c t fr h; rw [Array.getElem?_eq_none hb'] at h; cases h
      · intro c t fr h; rw [Array.getElem?_eq_none hb] at h; cases h
  exact R.change' hobjs hnext hf hfo hle hother hgrow hsame hnew huniq hfree ho hSame

end Go.Sk

/-
  SK, PART D. Cells: reading, writing, making, appending; each step of the abstract heap is one of the world's.
-/
namespace Go.Sk

theorem Heap.fam_some {H : Heap} {f : Nat} {m : Fam} (h : H.fam f = some m) : H.objs.get f = some (.cells m) := by
  unfold Heap.fam at h
  split at h
  · rename_i m' hm; simp at h; subst h; exact hm
  · cases h

theorem Fam.cell_some {m : Fam} {ep i : Nat} {v : V} (h : m.cell ep i = some v) : i < m.size ∧ ∃ lo, m.cells.get i = some (v, lo) ∧ lo ≤ ep := by
  unfold Fam.cell at h
  rw [nblt] at h
  by_cases hi : i < m.size
  · simp only [hi, decide_true, cond_true] at h
    cases hg : m.cells.get i with
    | none => rw [hg] at h; cases h
    | some x =>
      obtain ⟨u, lo⟩ := x
      rw [hg] at h
      simp only [nble] at h
      by_cases hl : lo ≤ ep
      · simp [hl] at h; subst h; exact ⟨hi, lo, rfl, hl⟩
      · simp [hl] at h
  · simp [hi] at h

theorem Fam.cellsAt_some {m : Fam} {ep : Nat} : ∀ {n i : Nat} {l : List V}, m.cellsAt ep i n = some l → l.length = n ∧ ∀ j v, l[j]? = some v → m.cell ep (i + j) = some v
  | 0, i, l, h => by
    simp [Fam.cellsAt] at h; subst h; simp
  | n + 1, i, l, h => by
    unfold Fam.cellsAt at h
    cases hc : m.cell ep i with
    | none => rw [hc] at h; cases h
    | some v =>
      rw [hc] at h
      simp only at h
      cases hl : m.cellsAt ep (i + 1) n with
      | none => rw [hl] at h; cases h
      | some l' =>
        rw [hl] at h
        simp at h; subst h
        obtain ⟨h1, h2⟩ := Fam.cellsAt_some hl
        refine ⟨by simp [h1], fun j u hj => ?_⟩
        cases j with
        | zero => simp at hj; subst hj; exact hc
        | succ j => simp at hj; have := h2 j u hj; rwa [show i + 1 + j = i + (j + 1) by omega] at this

variable {cx : Cx} {G : Nat} {ρ : Nat → Int} {Φ : Emb} {H : Heap} {w : World}

theorem Rel.cell (R : Rel cx G ρ Φ H w) {f ep i : Nat} {m : Fam} {v : V} {l : Loc} (hm : H.objs.get f = some (.cells m)) (he : ep ≤ m.ep) (hl : Φ f ep = some l)
    (hc : m.cell ep i = some v) {q : Nat} (hq : (q : Int) = i + l.sh) : ∃ x, w.cell? ⟨l.blk, q, none⟩ = some x ∧ VR ρ Φ v x ∧ x.oneCell' = true := by
  obtain ⟨_, _, _, h3⟩ := R.obj f _ hm
  obtain ⟨l', hl', _, arr, t, h4, _, h6⟩ := h3 ep he
  rw [hl] at hl'
  obtain rfl : l = l' := by simpa using hl'
  obtain ⟨h7, lo, h8, h9⟩ := Fam.cell_some hc
  obtain ⟨x, hx, hv, ho⟩ := h6 i v lo h7 h8 h9 q hq
  exact ⟨x, by simp [World.cell?, h4, hx], hv, ho⟩

theorem AR.add {a : DA} {b : Addr} (h : AR Φ a b) (j : Nat) : AR Φ { a with off := a.off + j } (b.add j) := by
  obtain ⟨l, h1, h2, h3, h4, h5⟩ := h
  unfold Addr.add
  split
  · rename_i hj; subst hj; exact ⟨l, h1, h2, by simpa using h3, h4, h5⟩
  · exact ⟨l, h1, h2, by simp; omega, rfl, h5⟩

theorem exists_list {α β : Type} (P : Nat → α → β → Prop) : ∀ (l : List α) (i : Nat), (∀ j v, l[j]? = some v → ∃ x, P (i + j) v x) →
    ∃ xs : List β, xs.length = l.length ∧ ∀ j v x, l[j]? = some v → xs[j]? = some x → P (i + j) v x
  | [], i, _ => ⟨[], rfl, by simp⟩
  | v :: l, i, h => by
    obtain ⟨x, hx⟩ := h 0 v rfl
    obtain ⟨xs, h1, h2⟩ := exists_list P l (i + 1) (fun j u hj => by have := h (j + 1) u (by simpa using hj); rwa [show i + (j + 1) = i + 1 + j by omega] at this)
    refine ⟨x :: xs, by simp [h1], fun j u y hj hy => ?_⟩
    cases j with
    | zero => simp at hj hy; subst hj; subst hy; exact hx
    | succ j =>
      simp at hj hy
      have := h2 j u y hj hy
      rwa [show i + 1 + j = i + (j + 1) by omega] at this

/-- Reading cells. -/
theorem Rel.cellsAt (R : Rel cx G ρ Φ H w) {a : DA} {b : Addr} {n : Nat} {l : List V} (h : H.cellsAt a n = some l) (hab : AR Φ a b) :
    ∃ xs : List Value, xs.length = n ∧ VRs ρ Φ l xs ∧ (∀ x ∈ xs, x.oneCell' = true) ∧ ∀ j x, xs[j]? = some x → w.cell? (b.add j) = some x := by
  unfold Heap.cellsAt at h
  cases hm : H.fam a.fam with
  | none => rw [hm] at h; cases h
  | some m =>
    rw [hm] at h
    simp only [nble] at h
    by_cases he : a.ep ≤ m.ep
    · simp only [he, decide_true, cond_true] at h
      obtain ⟨hn, hcell⟩ := Fam.cellsAt_some h
      obtain ⟨ll, h1, h2, h3, h4, _⟩ := hab
      obtain ⟨xs, hx1, hx2⟩ := exists_list (fun j v x => w.cell? (b.add j) = some x ∧ VR ρ Φ v x ∧ x.oneCell' = true) l 0 (by
        intro j v hj
        obtain ⟨x, hx, hv, ho⟩ := R.cell (Heap.fam_some hm) he h1 (hcell j v hj) (q := b.off + j) (by push_cast; omega)
        refine ⟨x, ?_, hv, ho⟩
        unfold Addr.add
        split
        · rename_i hj0
          obtain rfl : j = 0 := by omega
          obtain ⟨bb, bo, bs⟩ := b
          simp only at h2 h4
          subst h2; subst h4; exact hx
        · simp only [Nat.zero_add]; rw [h2]; exact hx)
      have hget : ∀ j x, xs[j]? = some x → ∃ v, l[j]? = some v ∧ w.cell? (b.add j) = some x ∧ VR ρ Φ v x ∧ x.oneCell' = true := by
        intro j x hj
        have hlt : j < l.length := by
          have := (List.getElem?_eq_some_iff.1 hj).1; omega
        have := hx2 j l[j] x (List.getElem?_eq_getElem hlt) hj
        rw [Nat.zero_add] at this
        exact ⟨l[j], List.getElem?_eq_getElem hlt, this⟩
      refine ⟨xs, by omega, VRs.of_get hx1.symm ?_, ?_, ?_⟩
      · intro j v x hj hx
        have := hx2 j v x hj hx
        exact this.2.1
      · intro x hx
        obtain ⟨j, hj⟩ := List.getElem?_of_mem hx
        obtain ⟨_, _, _, _, ho⟩ := hget j x hj
        exact ho
      · intro j x hj
        obtain ⟨_, _, hc, _⟩ := hget j x hj
        exact hc
    · simp [he] at h

/-! ### Families written -/
theorem Fam.puts_get : ∀ (l : List V) (m : Fam) (i p : Nat), (m.puts i l).cells.get p = if i ≤ p ∧ p < i + l.length then (l[p - i]?).map (·, m.ep) else m.cells.get p
  | [], m, i, p => by simp [Fam.puts]; intro; omega
  | v :: l, m, i, p => by
    simp only [Fam.puts]
    rw [Fam.puts_get l (m.put i v) (i + 1) p]
    simp only [Fam.put, Tr.get_put, List.length_cons]
    by_cases h1 : p = i
    · subst h1
      rw [if_neg (by omega), if_pos rfl, if_pos (by omega)]
      simp
    · by_cases h2 : i + 1 ≤ p ∧ p < i + 1 + l.length
      · rw [if_pos h2, if_pos (by omega)]
        rw [show p - i = (p - (i + 1)) + 1 by omega]
        simp
      · rw [if_neg h2, if_neg h1, if_neg (by omega)]
theorem Fam.puts_ep : ∀ (l : List V) (m : Fam) (i : Nat), (m.puts i l).ep = m.ep
  | [], _, _ => rfl
  | _ :: l, m, i => by simp only [Fam.puts]; rw [Fam.puts_ep l]; rfl
theorem Fam.puts_size : ∀ (l : List V) (m : Fam) (i : Nat), (m.puts i l).size = m.size
  | [], _, _ => rfl
  | _ :: l, m, i => by simp only [Fam.puts]; rw [Fam.puts_size l]; rfl

theorem allFlat_of {l : List V} {xs : List Value} (h : allFlat l = true) (r : VRs ρ Φ l xs) : ∀ x ∈ xs, x.oneCell' = true := by
  induction l generalizing xs with
  | nil => cases r; simp
  | cons v l ih =>
    cases r with
    | cons a b =>
      simp only [allFlat, Bool.and_eq_true] at h
      intro x hx
      rcases List.mem_cons.1 hx with rfl | hx
      · cases a <;> first | rfl | simp [V.flat] at h
      · exact ih h.2 b x hx

/-- Laying a family's object anew: what Rel.change asks, at one family that is there. -/
theorem list_splice {α : Type} (c v : List α) (o j : Nat) (h : o + v.length ≤ c.length) :
    (c.take o ++ v ++ c.drop (o + v.length))[j]? = if o ≤ j ∧ j < o + v.length then v[j - o]? else c[j]? := by
  by_cases h1 : j < o
  · rw [if_neg (by omega), List.append_assoc, List.getElem?_append_left (by simp; omega)]
    simp [List.getElem?_take, h1]
  · by_cases h2 : j < o + v.length
    · rw [if_pos (by omega), List.append_assoc, List.getElem?_append_right (by simp; omega), List.getElem?_append_left (by simp; omega)]
      simp [Nat.min_eq_left (show o ≤ c.length by omega)]
    · rw [if_neg (by omega), List.getElem?_append_right (by simp; omega)]
      simp only [List.length_append, List.length_take, Nat.min_eq_left (show o ≤ c.length by omega), List.getElem?_drop]
      congr 1; omega

/-- A family's block with some cells written over: what the other cells give stays. -/
theorem Rel.write {P : Program} (R : Rel cx G ρ Φ H w) {a : DA} {b : Addr} {l : List V} {xs : List Value} {H' : Heap} (h : H.write a l = some H') (hab : AR Φ a b)
    (hx : VRs ρ Φ l xs) (ho : ∀ x ∈ xs, x.oneCell' = true) :
    ∃ w', (storeCells b xs).run P w = .ok () w' ∧ Rel cx G ρ Φ H' w' ∧ Ext Φ H w Φ H' w' := by
  unfold Heap.write at h
  cases hm : H.fam a.fam with
  | none => rw [hm] at h; cases h
  | some m =>
    rw [hm] at h
    simp only [nbeq, nble, nblt, ← Bool.decide_and] at h
    by_cases hc : (a.ep = m.ep ∧ a.off + l.length ≤ m.size) ∧ 0 < l.length
    · simp only [hc, and_self, decide_true, cond_true, Option.some.injEq] at h
      obtain ⟨⟨he, hs⟩, hpos⟩ := hc
      have hobj := Heap.fam_some hm
      obtain ⟨h1, h2, h2', h3⟩ := R.obj a.fam _ hobj
      obtain ⟨ll, hl, hb1, hb2, hb3, _⟩ := hab
      obtain ⟨l', hl', _, arr, t, h4, h5, h6⟩ := h3 a.ep (by omega)
      rw [hl] at hl'
      obtain rfl : ll = l' := by simpa using hl'
      obtain ⟨bb, bo, bs⟩ := b
      simp only at hb1 hb2 hb3
      subst hb1; subst hb3
      have hlen := hx.length
      have hfit : bo + xs.length ≤ arr.size := by
        have := h2' ll (by rw [← he]; exact hl) (a.off + l.length - 1) (by omega) (bo + xs.length - 1) (by omega)
        omega
      have hrun := run_storeCells_at P ll.blk bo t xs 0 arr w h4 (by simpa using hfit) ho
      simp only [Nat.add_zero] at hrun
      generalize hnew : (arr.toList.take bo ++ xs ++ arr.toList.drop (bo + xs.length)).toArray = arr' at hrun
      have hget : ∀ j, arr'[j]? = if bo ≤ j ∧ j < bo + xs.length then xs[j - bo]? else arr[j]? := by
        intro j
        rw [← hnew]
        simp only [List.getElem?_toArray]
        rw [list_splice _ _ _ _ (by simpa using hfit)]
        simp
      have hsz : arr'.size = arr.size := by rw [← hnew]; simp; omega
      refine ⟨_, hrun, ?_⟩
      subst h
      have hheap := setRow_heap w ll.blk arr arr' t _ h4
      refine R.change (f := a.fam) (o' := .cells (m.puts a.off l)) rfl (Nat.le_refl _) (R.old _ _ hobj) (.inl (by simp [hobj])) (fun _ _ _ h => h) (fun _ _ => rfl)
        (by simp [World.setRow]) (fun k _ hk => setRow_other w ll.blk k arr' fun hkk => hk _ _ hl hkk.symm)
        (fun e l h h' => by rw [h] at h'; cases h') (fun e l e' l' h h' hb => (R.inj _ _ _ _ _ _ h h' hb).2) (fun h => by simp [hobj] at h) ?_ ⟨rfl, rfl, rfl, Nat.le_refl _⟩ (fun b h1 h2 => by simp [World.setRow] at h2; omega)
      refine ⟨fun e he' => h1 e (by rw [Fam.puts_ep] at he'; exact he'), ?_, ?_, ?_⟩
      · intro p v lo hp hg
        rw [Fam.puts_get] at hg
        rw [Fam.puts_size] at hp
        rw [Fam.puts_ep]
        by_cases hr : a.off ≤ p ∧ p < a.off + l.length
        · rw [if_pos hr] at hg
          cases hq : l[p - a.off]? with
          | none => rw [hq] at hg; cases hg
          | some u => rw [hq] at hg; simp at hg; omega
        · rw [if_neg hr] at hg; exact h2 p v lo hp hg
      · intro l0 hl0 p hp q hq
        rw [Fam.puts_ep] at hl0
        rw [Fam.puts_size] at hp
        exact h2' l0 hl0 p hp q hq
      · intro e he'
        rw [Fam.puts_ep] at he'
        obtain ⟨l1, hl1, hr1, arr1, t1, g4, g5, g6⟩ := h3 e he'
        refine ⟨l1, hl1, hr1, ?_⟩
        by_cases hb : l1.blk = ll.blk
        · obtain rfl := (R.inj _ _ _ _ _ _ hl1 hl hb).2
          rw [h4] at g4
          obtain ⟨rfl, rfl⟩ : arr = arr1 ∧ t = t1 := by simpa using g4
          refine ⟨arr', t, hheap, by omega, fun p v lo hp hg hlo q hq => ?_⟩
          rw [Fam.puts_get] at hg
          rw [Fam.puts_size] at hp
          by_cases hr : a.off ≤ p ∧ p < a.off + l.length
          · rw [if_pos hr] at hg
            cases hu : l[p - a.off]? with
            | none => rw [hu] at hg; cases hg
            | some u =>
              rw [hu] at hg
              simp only [Option.map_some, Option.some.injEq, Prod.mk.injEq] at hg
              obtain ⟨rfl, rfl⟩ := hg
              obtain ⟨x, hxx, hv⟩ := hx.get hu
              refine ⟨x, ?_, hv, ho x (List.mem_of_getElem? hxx)⟩
              rw [hget, if_pos (by omega), show q - bo = p - a.off by omega]; exact hxx
          · rw [if_neg hr] at hg
            rw [hget, if_neg (by omega)]
            exact g6 p v lo hp hg hlo q hq
        · refine ⟨arr1, t1, by rw [setRow_other w ll.blk _ arr' hb]; exact g4, g5, fun p v lo hp hg hlo q hq => ?_⟩
          rw [Fam.puts_get] at hg
          rw [Fam.puts_size] at hp
          by_cases hr : a.off ≤ p ∧ p < a.off + l.length
          · rw [if_pos hr] at hg
            cases hu : l[p - a.off]? with
            | none => rw [hu] at hg; cases hg
            | some u =>
              rw [hu] at hg
              simp only [Option.map_some, Option.some.injEq, Prod.mk.injEq] at hg
              obtain ⟨rfl, rfl⟩ := hg
              exfalso
              have : e = a.ep := by omega
              subst this
              rw [hl] at hl1
              exact hb (by simp at hl1; rw [hl1])
          · rw [if_neg hr] at hg
            exact g6 p v lo hp hg hlo q hq
    · simp [hc] at h

/-- The embedding with one place more. -/
def Emb.set (Φ : Emb) (f e : Nat) (l : Loc) : Emb := fun g d => if g = f ∧ d = e then some l else Φ g d
theorem Emb.set_same (Φ : Emb) (f e : Nat) (l : Loc) : Φ.set f e l f e = some l := by simp [Emb.set]
theorem Emb.set_other (Φ : Emb) (f e : Nat) (l : Loc) {g d : Nat} (h : ¬ (g = f ∧ d = e)) : Φ.set f e l g d = Φ g d := by simp [Emb.set, h]
theorem Emb.le_set {Φ : Emb} {f e : Nat} (l : Loc) (h : Φ f e = none) : Φ.le (Φ.set f e l) := by
  intro g d k hk
  by_cases hg : g = f ∧ d = e
  · obtain ⟨rfl, rfl⟩ := hg; rw [h] at hk; cases hk
  · rw [Emb.set_other _ _ _ _ hg]; exact hk

/-- A new object. -/
theorem Rel.new (R : Rel cx G ρ Φ H w) {o : Obj} {ro : Go.Obj} {l : Loc} (hfree : ∀ e, Φ H.next e = none) (hblk : l.blk = w.heap.size)
    (ho : ObjR ρ (Φ.set H.next 0 l) { w with heap := w.heap.push ro } H.next o) :
    Rel cx G ρ (Φ.set H.next 0 l) (H.new o) { w with heap := w.heap.push ro } ∧ Ext Φ H w (Φ.set H.next 0 l) (H.new o) { w with heap := w.heap.push ro } := by
  have hold : H.objs.get H.next = none := by
    cases h : H.objs.get H.next with
    | none => rfl
    | some o => have := R.old _ _ h; omega
  refine R.change (f := H.next) (o' := o) rfl (by simp [Heap.new]) (by simp [Heap.new]) (.inr (Nat.le_refl _)) (Emb.le_set l (hfree 0)) ?_ (by simp) ?_ ?_ ?_ (fun _ => hfree) ho ⟨rfl, rfl, rfl, Nat.le_refl _⟩ (fun b h1 h2 => ⟨0, l, Emb.set_same _ _ _ _, by simp at h2; omega⟩)
  · intro g hg
    funext d
    exact Emb.set_other _ _ _ _ (fun h => hg h.1)
  · intro b hb _
    simp only [Array.getElem?_push]
    rw [if_neg (by omega)]
  · intro e l' h1 h2
    by_cases he : e = 0
    · subst he
      rw [Emb.set_same] at h1
      obtain rfl : l = l' := by simpa using h1
      have := R.sz; exact .inl ⟨by omega, by simp; omega, by omega⟩
    · rw [Emb.set_other _ _ _ _ (fun h => he h.2), h2] at h1; cases h1
  · intro e l1 e' l2 h1 h2 _
    have key : ∀ e l', Φ.set H.next 0 l H.next e = some l' → l = l' := by
      intro e l' h
      by_cases he : e = 0
      · subst he; rw [Emb.set_same] at h; simpa using h
      · rw [Emb.set_other _ _ _ _ (fun h => he h.2), hfree e] at h; cases h
    rw [← key _ _ h1, ← key _ _ h2]

theorem famOf_get (cs : List V) (p : Nat) : (famOf cs).cells.get p = (cs[p]?).map (·, 0) := by
  unfold famOf
  rw [Fam.puts_get]
  simp only [Nat.zero_le, Nat.zero_add, true_and, Tr.get_nil, Nat.sub_zero]
  split
  · rfl
  · rename_i h; rw [List.getElem?_eq_none (by omega)]; rfl
theorem famOf_ep (cs : List V) : (famOf cs).ep = 0 := by unfold famOf; rw [Fam.puts_ep]
theorem famOf_size (cs : List V) : (famOf cs).size = cs.length := by unfold famOf; rw [Fam.puts_size]

/-- A new family of cells; the world's block may hold more cells behind them. -/
theorem Rel.newCells (R : Rel cx G ρ Φ H w) {cs : List V} {xs : List Value} {arr : Array Value} (t : TypeId) (hfree : ∀ e, Φ H.next e = none)
    (hx : VRs ρ Φ cs xs) (ho : ∀ x ∈ xs, x.oneCell' = true) (ha : ∀ (j : Nat) x, xs[j]? = some x → arr[j]? = some x) :
    Rel cx G ρ (Φ.set H.next 0 ⟨w.heap.size, 0, arr.size, true⟩) (H.new (.cells (famOf cs))) { w with heap := w.heap.push (.cells arr t) } ∧
      Ext Φ H w (Φ.set H.next 0 ⟨w.heap.size, 0, arr.size, true⟩) (H.new (.cells (famOf cs))) { w with heap := w.heap.push (.cells arr t) } := by
  refine R.new hfree rfl ⟨?_, ?_, ?_, ?_⟩
  · intro e he
    rw [famOf_ep] at he
    rw [Emb.set_other _ _ _ _ (fun h => by omega)]; exact hfree e
  · intro p v lo hp hg
    rw [famOf_get] at hg
    rw [famOf_ep]
    cases h : cs[p]? with
    | none => rw [h] at hg; cases hg
    | some u => rw [h] at hg; simp at hg; omega
  · intro l hl p hp q hq
    rw [famOf_ep, Emb.set_same] at hl
    obtain rfl : (⟨w.heap.size, 0, arr.size, true⟩ : Loc) = l := by simpa using hl
    rw [famOf_size] at hp
    simp only at hq ⊢
    have hlt : p < xs.length := by rw [← hx.length]; exact hp
    have := ha p xs[p] (List.getElem?_eq_getElem hlt)
    have := (Array.getElem?_eq_some_iff.1 this).1
    omega
  · intro e he
    rw [famOf_ep] at he
    obtain rfl : e = 0 := by omega
    refine ⟨_, Emb.set_same _ _ _ _, rfl, arr, t, by simp, rfl, fun p v lo hp hg _ q hq => ?_⟩
    rw [famOf_get] at hg
    cases h : cs[p]? with
    | none => rw [h] at hg; cases hg
    | some u =>
      rw [h] at hg
      simp at hg
      obtain ⟨rfl, rfl⟩ := hg
      obtain ⟨x, hxx, hv⟩ := hx.get h
      simp only at hq
      obtain rfl : q = p := by omega
      exact ⟨x, ha q x hxx, hv.le (Emb.le_set _ (hfree 0)), ho x (List.mem_of_getElem? hxx)⟩

/-! ### Appending -/
theorem growV_some {H H' : Heap} {sz len n : Nat} {a : DA} {l : List V} {v : V} (h : growV H sz a len n l = some (v, H')) :
    ∃ m, H.objs.get a.fam = some (.cells m) ∧ a.ep = m.ep ∧ a.off + len * sz ≤ m.size ∧ v = .slice (some { a with ep := m.ep + 1 }) (len + n) sz ∧
      H' = H.setObj a.fam (.cells (Fam.puts { ep := m.ep + 1, size := a.off + (len + n) * sz, cells := m.cells } (a.off + len * sz) l)) := by
  unfold growV at h
  cases hm : H.fam a.fam with
  | none => rw [hm] at h; cases h
  | some m =>
    rw [hm] at h
    simp only [nbeq, nble, ← Bool.decide_and] at h
    by_cases hc : a.ep = m.ep ∧ a.off + len * sz ≤ m.size
    · simp only [hc, and_self, decide_true, cond_true, Option.some.injEq, Prod.mk.injEq] at h
      exact ⟨m, Heap.fam_some hm, hc.1, hc.2, by rw [← h.1], h.2.symm⟩
    · simp [hc] at h

/-- What an appended family's cells are. -/
theorem grown_get {m : Fam} {a : DA} {len n sz : Nat} {l : List V} (p : Nat) :
    (Fam.puts { ep := m.ep + 1, size := a.off + (len + n) * sz, cells := m.cells } (a.off + len * sz) l).cells.get p =
      if a.off + len * sz ≤ p ∧ p < a.off + len * sz + l.length then (l[p - (a.off + len * sz)]?).map (·, m.ep + 1) else m.cells.get p := by
  rw [Fam.puts_get]

/-- Laying an appended family's new epoch at a place. -/
theorem Rel.grow (R : Rel cx G ρ Φ H w) {w' : World} {a : DA} {m : Fam} {len n sz : Nat} {l : List V} {xs : List Value} {L : Loc} {arr : Array Value} {t : TypeId}
    (hobj : H.objs.get a.fam = some (.cells m)) (hep : a.ep = m.ep) (hsize : a.off + len * sz ≤ m.size) (hl : l.length = n * sz) (hx : VRs ρ Φ l xs) (ho : ∀ x ∈ xs, x.oneCell' = true)
    (hgrow : w.heap.size ≤ w'.heap.size) (hos : Outer w w') (hcov : ∀ b, w.heap.size ≤ b → b < w'.heap.size → b = L.blk)
    (hsame : ∀ b, b < w.heap.size → (∀ e l, Φ a.fam e = some l → l.blk ≠ b) → w'.heap[b]? = w.heap[b]?)
    (hL : (w.heap.size ≤ L.blk ∧ L.blk < w'.heap.size) ∨ Φ a.fam a.ep = some L)
    (hrow : L.row = true) (hheap : w'.heap[L.blk]? = some (.cells arr t (0, 0))) (hsz : arr.size = L.size)
    (hold : ∀ p v lo, a.off + len * sz > p → m.cells.get p = some (v, lo) → ∀ q : Nat, (q : Int) = p + L.sh → ∃ x, arr[q]? = some x ∧ VR ρ Φ v x ∧ x.oneCell' = true)
    (hnewc : ∀ (j : Nat) x, xs[j]? = some x → ∀ q : Nat, (q : Int) = a.off + len * sz + j + L.sh → arr[q]? = some x)
    (hext : ∀ p q : Nat, p < a.off + (len + n) * sz → (q : Int) = p + L.sh → q < L.size)
    (hkeep : ∀ e l1, Φ a.fam e = some l1 → e ≤ m.ep → ∀ arr1 t1, w.heap[l1.blk]? = some (.cells arr1 t1 (0, 0)) → ∃ arr2, w'.heap[l1.blk]? = some (.cells arr2 t1 (0, 0)) ∧ arr2.size = arr1.size ∧
      ∀ p q : Nat, p < a.off + len * sz → (q : Int) = p + l1.sh → arr2[q]? = arr1[q]?) :
    Rel cx G ρ (Φ.set a.fam (m.ep + 1) L) (H.setObj a.fam (.cells (Fam.puts { ep := m.ep + 1, size := a.off + (len + n) * sz, cells := m.cells } (a.off + len * sz) l))) w' ∧
      Ext Φ H w (Φ.set a.fam (m.ep + 1) L) (H.setObj a.fam (.cells (Fam.puts { ep := m.ep + 1, size := a.off + (len + n) * sz, cells := m.cells } (a.off + len * sz) l))) w' := by
  obtain ⟨h1, h2, h2', h3⟩ := R.obj a.fam _ hobj
  have hnone : Φ a.fam (m.ep + 1) = none := h1 _ (by omega)
  have hmul : (len + n) * sz = len * sz + n * sz := Nat.add_mul _ _ _
  refine R.change (f := a.fam) (o' := .cells _) rfl (Nat.le_refl _) (R.old _ _ hobj) (.inl (by simp [hobj])) (Emb.le_set L hnone) ?_ hgrow hsame ?_ ?_ (fun h => by simp [hobj] at h) ?_ hos (fun b h1 h2 => ⟨m.ep + 1, L, Emb.set_same _ _ _ _, (hcov b h1 h2).symm⟩)
  · intro g hg; funext d; exact Emb.set_other _ _ _ _ (fun h => hg h.1)
  · intro e l' g1 g2
    by_cases he : e = m.ep + 1
    · subst he
      rw [Emb.set_same] at g1
      obtain rfl : L = l' := by simpa using g1
      rcases hL with ⟨h5, h6⟩ | h5
      · have := R.sz; exact .inl ⟨h5, h6, by omega⟩
      · exact .inr ⟨_, h5, by simp [hobj]⟩
    · rw [Emb.set_other _ _ _ _ (fun h => he h.2), g2] at g1; cases g1
  · have key : ∀ e l', Φ.set a.fam (m.ep + 1) L a.fam e = some l' → (l' = L) ∨ Φ a.fam e = some l' := by
      intro e l' h
      by_cases he : e = m.ep + 1
      · subst he; rw [Emb.set_same] at h; exact .inl (by simpa using h.symm)
      · rw [Emb.set_other _ _ _ _ (fun h => he h.2)] at h; exact .inr h
    intro e l1 e' l2 g1 g2 hb
    rcases key _ _ g1 with rfl | k1 <;> rcases key _ _ g2 with rfl | k2
    · rfl
    · rcases hL with ⟨h5, _⟩ | h5
      · have := (R.dom _ _ _ k2).1; omega
      · exact (R.inj _ _ _ _ _ _ h5 k2 hb).2
    · rcases hL with ⟨h5, _⟩ | h5
      · have := (R.dom _ _ _ k1).1; omega
      · exact (R.inj _ _ _ _ _ _ k1 h5 hb).2
    · exact (R.inj _ _ _ _ _ _ k1 k2 hb).2
  · refine ⟨?_, ?_, ?_, ?_⟩
    · intro e he
      rw [Fam.puts_ep] at he
      simp only at he
      rw [Emb.set_other _ _ _ _ (fun h => by omega)]
      exact h1 e (by omega)
    · intro p v lo hp hg
      rw [Fam.puts_size] at hp
      simp only at hp
      rw [grown_get] at hg
      rw [Fam.puts_ep]
      simp only
      split at hg
      · cases hq : l[p - (a.off + len * sz)]? with
        | none => rw [hq] at hg; cases hg
        | some u => rw [hq] at hg; simp at hg; omega
      · have := h2 p v lo (by omega) hg; omega
    · intro l' hl' p hp q hq
      rw [Fam.puts_ep, Emb.set_same] at hl'
      obtain rfl : L = l' := by simpa using hl'
      rw [Fam.puts_size] at hp
      exact hext p q hp hq
    · intro e he
      rw [Fam.puts_ep] at he
      simp only at he
      by_cases hee : e = m.ep + 1
      · subst hee
        refine ⟨L, Emb.set_same _ _ _ _, hrow, arr, t, hheap, hsz, fun p v lo hp hg hlo q hq => ?_⟩
        rw [grown_get] at hg
        rw [Fam.puts_size] at hp
        simp only at hp
        split at hg
        · rename_i hr
          cases hu : l[p - (a.off + len * sz)]? with
          | none => rw [hu] at hg; cases hg
          | some u =>
            rw [hu] at hg
            simp only [Option.map_some, Option.some.injEq, Prod.mk.injEq] at hg
            obtain ⟨rfl, rfl⟩ := hg
            obtain ⟨x, hxx, hv⟩ := hx.get hu
            exact ⟨x, hnewc _ x hxx q (by omega), hv.le (Emb.le_set L hnone), ho x (List.mem_of_getElem? hxx)⟩
        · rename_i hr
          obtain ⟨x, g1, g2, g3⟩ := hold p v lo (by omega) hg q hq
          exact ⟨x, g1, g2.le (Emb.le_set L hnone), g3⟩
      · obtain ⟨l1, hl1, hr1, arr1, t1, g4, g5, g6⟩ := h3 e (by omega)
        obtain ⟨arr2, k1, k2, k3⟩ := hkeep e l1 hl1 (by omega) arr1 t1 g4
        refine ⟨l1, Emb.le_set L hnone _ _ _ hl1, hr1, arr2, t1, k1, by omega, fun p v lo hp hg hlo q hq => ?_⟩
        rw [grown_get] at hg
        split at hg
        · cases hu : l[p - (a.off + len * sz)]? with
          | none => rw [hu] at hg; cases hg
          | some u => rw [hu] at hg; simp at hg; omega
        · rename_i hr
          rw [Fam.puts_size] at hp
          simp only at hp
          obtain ⟨x, c1, c2, c3⟩ := g6 p v lo (by omega) hg hlo q hq
          exact ⟨x, by rw [k3 p q (by omega) hq]; exact c1, c2.le (Emb.le_set L hnone), c3⟩

end Go.Sk
