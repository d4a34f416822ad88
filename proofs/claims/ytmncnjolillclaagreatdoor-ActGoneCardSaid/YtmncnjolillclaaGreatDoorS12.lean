/-
  SK, PART SR. slices.SortFunc at pairs of small numbers, as a step of the abstract machine: the library's contract (Derived/Shelf/SlSortCmp/WholeK) carried over.
-/
import Derived.Test.YtmncnjolillclaaGreatDoorS11
import Derived.Shelf.SlSortCmp.WholeK
namespace Go.Sk
open Go.Sort Go.Shelf
variable {P : Program} {cx : Cx} {G : Nat} {ρ : Nat → Int} {Φ : Emb} {H : Heap} {w : World}

abbrev Pr := Fin 65536 × Fin 65536
def encP (p : Pr) : List Value := [.int .i64 (p.1.val : Int), .int .i64 (p.2.val : Int)]
def cfP (x y : Pr) : Int := if x.1 = y.1 then (x.2.val : Int) - y.2.val else (x.1.val : Int) - y.1.val
theorem ltP_iff (x y : Pr) : Proofs.ltOf cfP x y = decide (x.1.val < y.1.val ∨ (x.1.val = y.1.val ∧ x.2.val < y.2.val)) := by
  unfold Proofs.ltOf cfP
  rw [decide_eq_decide]
  by_cases h : x.1 = y.1
  · rw [if_pos h]
    have : x.1.val = y.1.val := by rw [h]
    omega
  · rw [if_neg h]
    have : x.1.val ≠ y.1.val := fun hh => h (Fin.ext hh)
    omega
theorem swoP : SWO (Proofs.ltOf cfP) where
  irrefl x := by rw [ltP_iff]; simp
  trans x y z h1 h2 := by rw [ltP_iff] at *; simp only [decide_eq_true_eq] at *; omega
  ntrans x y z h1 h2 := by rw [ltP_iff] at *; simp only [decide_eq_false_iff_not] at *; omega
theorem totP (x y : Pr) (h1 : Proofs.ltOf cfP x y = false) (h2 : Proofs.ltOf cfP y x = false) : x = y := by
  rw [ltP_iff] at *
  simp only [decide_eq_false_iff_not] at *
  exact Prod.ext (Fin.ext (by omega)) (Fin.ext (by omega))

def vP (p : Pr) : List V := [.int .i64 (.lit (.ofNat p.1.val)), .int .i64 (.lit (.ofNat p.2.val))]
def flatP (l : List Pr) : List V := (l.map vP).flatten
def flatX (l : List Pr) : List Value := (l.map encP).flatten
theorem flatP_length : ∀ l : List Pr, (flatP l).length = 2 * l.length
  | [] => rfl
  | p :: l => by have := flatP_length l; simp only [flatP, List.map_cons, List.flatten_cons, List.length_append, List.length_cons] at this ⊢; rw [this]; simp [vP]; omega
theorem flatX_length : ∀ l : List Pr, (flatX l).length = 2 * l.length
  | [] => rfl
  | p :: l => by have := flatX_length l; simp only [flatX, List.map_cons, List.flatten_cons, List.length_append, List.length_cons] at this ⊢; rw [this]; simp [encP]; omega
theorem flatX_get : ∀ (l : List Pr) (t : Nat), t < l.length * 2 → (flatX l)[t]? = some ((encP l[t / 2]!)[t % 2]!)
  | [], t, h => by simp at h
  | p :: l, 0, h => by simp [flatX, encP]
  | p :: l, 1, h => by simp [flatX, encP]
  | p :: l, t + 2, h => by
    have := flatX_get l t (by simp at h; omega)
    simp only [flatX, List.map_cons, List.flatten_cons, encP, List.cons_append, List.nil_append, List.getElem?_cons_succ] at this ⊢
    rw [this, show (t + 2) / 2 = t / 2 + 1 by omega, show (t + 2) % 2 = t % 2 by omega]
    simp
theorem flatX_oneCell {l : List Pr} : ∀ v ∈ flatX l, v.oneCell' = true := by
  intro v hv
  simp only [flatX, List.mem_flatten, List.mem_map] at hv
  obtain ⟨_, ⟨p, _, rfl⟩, hv⟩ := hv
  simp [encP] at hv
  rcases hv with rfl | rfl <;> rfl
theorem flat_vrs : ∀ l : List Pr, VRs ρ Φ (flatP l) (flatX l)
  | [] => .nil
  | p :: l => by
    have := flat_vrs l
    simp only [flatP, flatX, List.map_cons, List.flatten_cons, vP, encP, List.cons_append, List.nil_append] at this ⊢
    exact .cons (.int .i64 (.lit _)) (.cons (.int .i64 (.lit _)) this)
theorem flat_det : ∀ (l : List Pr) {xs : List Value}, VRs ρ Φ (flatP l) xs → xs = flatX l
  | [], xs, h => by cases h; rfl
  | p :: l, xs, h => by
    simp only [flatP, flatX, List.map_cons, List.flatten_cons, vP, encP, List.cons_append, List.nil_append] at h ⊢
    cases h with
    | cons h1 h => cases h with
      | cons h2 h =>
        rw [flat_det l h]
        cases h1; cases h2
        rfl
theorem setMany_all : ∀ (vs : List Value) (pre : List Value) (F : Array Value), F.size = pre.length + vs.length → (∀ (i : Nat) (v : Value), pre[i]? = some v → F[i]? = some v) → setMany F pre.length vs = (pre ++ vs).toArray
  | [], pre, F, h, hp => by
    simp only [setMany, List.append_nil]
    apply Array.ext
    · simpa using h
    · intro i h1 h2
      simp at h2
      have := hp i _ (List.getElem?_eq_getElem h2)
      rw [Array.getElem?_eq_getElem h1] at this
      simpa using this
  | v :: r, pre, F, h, hp => by
    rw [setMany]
    have := setMany_all r (pre ++ [v]) (F.setIfInBounds pre.length v) (by simp at h ⊢; omega) (by
      intro i u hu
      rw [Array.getElem?_setIfInBounds]
      by_cases hi : pre.length = i
      · subst hi
        rw [if_pos rfl]
        simp at hu; subst hu
        simp at h ⊢; omega
      · rw [if_neg hi]
        refine hp i u ?_
        have hlt : i < pre.length := by
          have := (List.getElem?_eq_some_iff.1 hu).1
          simp at this; omega
        rw [List.getElem?_append_left hlt] at hu
        exact hu)
    simpa using this

theorem cellsAt_of {M : Fam} {ep : Nat} : ∀ (l : List V) (i : Nat), (∀ p v, l[p]? = some v → M.cell ep (i + p) = some v) → M.cellsAt ep i l.length = some l
  | [], i, _ => rfl
  | v :: l, i, h => by
    have h0 := h 0 v rfl
    have h1 := cellsAt_of l (i + 1) fun p u hp => by rw [show i + 1 + p = i + (p + 1) by omega]; exact h (p + 1) u (by simpa using hp)
    simp only [List.length_cons, Fam.cellsAt]
    rw [Nat.add_zero] at h0
    rw [h0, h1]

theorem flatK_eq (d : Array Pr) : flatK encP 2 d = (flatX d.toList).toArray := by
  apply Array.ext
  · rw [size_flatK]; simp [flatX_length]; omega
  · intro t h1 h2
    rw [size_flatK] at h1
    have := flatX_get d.toList t (by simpa using h1)
    have e1 := get_flatK encP 2 d t h1
    rw [getElem!_pos _ _ (by rw [size_flatK]; exact h1)] at e1
    rw [e1]
    have h2' : t < (flatX d.toList).length := by simpa using h2
    rw [List.getElem?_eq_getElem h2'] at this
    simp only [Option.some.injEq] at this
    simp only [List.getElem_toArray]
    rw [this]
    have hdt : t / 2 < d.size := by omega
    have : d.toList[t / 2]! = d[t / 2]! := by
      rw [getElem!_pos d.toList (t / 2) (by simpa using hdt), getElem!_pos d (t / 2) hdt, Array.getElem_toList]
    rw [this]

theorem sort_unique {l S : List Pr} {d' : Array Pr} (hp : PermIn 0 l.length l.toArray d') (hs : SortedIn (Proofs.ltOf cfP) 0 l.length d') (hS : S.Perm l) (hSS : S.Pairwise fun a b => Proofs.ltOf cfP b a = false) : d'.toList = S := by
  have h1 := sorted_unique_holds (lt := Proofs.ltOf cfP) swoP totP l.toArray d' (by simpa using hp) (by simpa using hs)
  have hlen := hS.length_eq
  have h2 := sorted_unique_holds (lt := Proofs.ltOf cfP) swoP totP l.toArray S.toArray ⟨by simp [hlen], fun i hi => by
      have h3 : ¬ i < S.length := by simp at hi; omega
      have h4 : ¬ i < l.length := by omega
      simp [h3, h4], by simp only [List.size_toArray, List.extract_toArray, List.extract_eq_take_drop, Nat.sub_zero, List.drop_zero]; rw [List.take_length, List.take_of_length_le (by omega)]; exact hS⟩ (by
    intro i j _ hij hj
    simp only [List.size_toArray] at hj
    have hj' : j < S.length := by omega
    have := List.pairwise_iff_getElem.1 hSS i j (by omega) hj' hij
    simpa [hj', show i < S.length by omega] using this)
  rw [h1]
  simpa using h2.symm

/-- A world that a sort leaves: the row's block has changed, new blocks have come, draws were made. -/
theorem Rel.sorted {a : DA} {bo : Nat} {l : Loc} {S : List Pr} {d' : Array Pr} {H' : Heap} {n : Nat} {os : Array Go.Obj} (R : Rel cx G ρ Φ H w) (hl : Φ a.fam a.ep = some l) (hrow : l.row = true) (hbo : (bo : Int) = a.off + l.sh)
    (hw : H.write a (flatP S) = some H') (hd : d'.toList = S) {d : Array Pr} (hH : HoldsK encP 2 w l.blk bo d) (hsz : d'.size = d.size) :
    Rel cx G ρ Φ H' (Proofs.sortWorldK encP 2 w l.blk bo n d' os) ∧ Ext Φ H w Φ H' (Proofs.sortWorldK encP 2 w l.blk bo n d' os) := by
  have hdom := (R.dom _ _ _ hl).1
  have hab : AR Φ a ⟨l.blk, bo, none⟩ := ⟨l, hl, rfl, hbo, rfl, hrow⟩
  obtain ⟨w1, h1, h2, h3⟩ := R.write (P := default) hw hab (flat_vrs S) flatX_oneCell
  have hlen : (flatX S).length = (flatK encP 2 d).size := by rw [flatX_length, size_flatK, ← hsz, ← hd]; simp; omega
  have hrun := Proofs.stores_of_holds (default : Program) hH 0 (flatX S) (by omega) flatX_oneCell
  rw [Nat.add_zero] at hrun
  have hw1 : w1 = w.setCells l.blk bo (flatX S) := by
    have : (Sem.run default (storeCells ⟨l.blk, bo, none⟩ (flatX S)) w) = .ok () (w.setCells l.blk bo (flatX S)) := hrun
    rw [h1] at this
    simpa using this
  have hput : w.setCells l.blk bo (flatX S) = putRowK encP 2 w l.blk bo d' := by
    have k := setCells_putRow w l.blk bo (flatX S) 0 (flatK encP 2 d) (by omega)
    rw [Nat.add_zero, putRow_self id w l.blk bo _ hH] at k
    rw [k]
    unfold putRowK
    rw [flatK_eq d', hd]
    have := setMany_all (flatX S) [] (flatK encP 2 d) (by simp [hlen]) (by simp)
    simp only [List.length_nil, List.nil_append] at this
    rw [this]
  rw [hput] at hw1
  subst hw1
  have hheap : (Proofs.sortWorldK encP 2 w l.blk bo n d' os).heap = (putRowK encP 2 w l.blk bo d').heap ++ os := rfl
  have hold : ∀ b, b < (putRowK encP 2 w l.blk bo d').heap.size → (Proofs.sortWorldK encP 2 w l.blk bo n d' os).heap[b]? = (putRowK encP 2 w l.blk bo d').heap[b]? := fun b hb => by
    rw [hheap, Array.getElem?_append_left hb]
  obtain ⟨q1, q2⟩ := h2.grown (w' := Proofs.sortWorldK encP 2 w l.blk bo n d' os) ⟨⟨rfl, rfl, rfl, Nat.le_add_right _ _⟩, by rw [hheap]; simp, fun x hx => by unfold World.frozen?; rw [hold _ hx]⟩ (by rw [hheap]; simp) hold
  exact ⟨q1, h3.trans (fun f e g1 g2 => by rw [write_next hw] at g2; omega) q2⟩

theorem SR_lt {n : Nat} (h : n < 1000000) : n < 4611686018427387904 := by omega

/-- slices.SortFunc as a step. -/
theorem sort_at {re : Ren} (L : Proofs.SlLaysF0.n6 P re) (aE : ∀ w, (isAgg (re.t 24)).run P w = .ok true w) (zE : ∀ w, (Go.sizeOf (re.t 24)).run P w = .ok 2 w) {g : Nat}
    (eg : ∀ args w, (callFunc g args).run P w = .ok (.enter g args) w) (es : ∀ args w, (callFunc (re.f 6) args).run P w = .ok (.enter (re.f 6) args) w)
    (hcmp : ∀ blk off size w, Proofs.CmpLays P g #[] encP 2 cfP blk off size w) {M : Fam} {fo j : Nat} {l l0 S : List Pr} (hl : l.length = j + 1) (hj : j + 1 < 1000000)
    (hM : H.objs.get fo = some (.cells M)) (hep : M.ep = j) (hsz : M.size = 2 * (j + 1)) (hcells : ∀ p v, (flatP l)[p]? = some v → ∃ lo, M.cells.get p = some (v, lo) ∧ lo ≤ M.ep)
    (hp : l.Perm l0) (hS : S.Perm l0) (hSS : S.Pairwise fun a b => Proofs.ltOf cfP b a = false) :
    RecAt P cx G ρ (re.f 6) [.slice (some ⟨fo, j, 0⟩) (j + 1) 2, .func (.func g) [] []] H (.tuple []) (H.setObj fo (.cells (M.puts 0 (flatP S)))) := by
  refine ⟨Nat.le_refl _, es, fun Φ w xs R hA hF => ?_⟩
  obtain ⟨xl⟩ := xs
  simp only at hA
  cases hA with
  | @cons _ x1 _ _ hx1 hA =>
  cases hA with
  | @cons _ x2 _ _ hx2 hA =>
  cases hA
  cases hx2 with
  | @func _ _ _ y z hy hz =>
  have hy0 : y = #[] := by obtain ⟨yl⟩ := y; simp only at hy; cases hy; rfl
  have hz0 : z = #[] := by obtain ⟨zl⟩ := z; simp only at hz; cases hz; rfl
  subst hy0; subst hz0
  cases hx1 with
  | @slice _ b _ c _ lo hab hlo hn hroom =>
  obtain ⟨l2, hl2, hb1, hb2, hb3, hrow⟩ := hab
  simp only at hl2 hlo
  rw [hlo] at hl2
  obtain rfl : lo = l2 := by simpa using hl2
  obtain ⟨bb, bo, bs⟩ := b
  simp only at hb1 hb2 hb3 hroom
  subst hb1; subst hb3
  have hSl : S.length = j + 1 := by rw [hS.length_eq, ← hp.length_eq, hl]
  have hdom := R.dom _ _ _ hlo
  have hca : H.cellsAt ⟨fo, j, 0⟩ (2 * (j + 1)) = some (flatP l) := by
    have hfam : H.fam fo = some M := by simp [Heap.fam, hM]
    have hle : Nat.ble j M.ep = true := by rw [nble, hep]; simp
    simp only [Heap.cellsAt, hfam, hle, cond_true]
    rw [← hl, ← flatP_length]
    refine cellsAt_of _ _ fun p v hv => ?_
    obtain ⟨q, h1, h2⟩ := hcells p v hv
    have hlt := (List.getElem?_eq_some_iff.1 hv).1
    rw [flatP_length, hl] at hlt
    have h3 : Nat.blt (0 + p) M.size = true := by rw [nblt]; simp; omega
    have h4 : Nat.ble q j = true := by rw [nble]; simp; omega
    rw [Nat.zero_add] at h3 ⊢
    simp only [Fam.cell, h3, h1, h4, cond_true]
  obtain ⟨xs, hxl, hxr, _, hxc⟩ := R.cellsAt hca (show AR Φ ⟨fo, j, 0⟩ ⟨lo.blk, bo, none⟩ from ⟨lo, hlo, rfl, hb2, rfl, hrow⟩)
  rw [flat_det l hxr] at hxc
  have hsoft : Soft w.heap[lo.blk]? := (R.obj _ _ hM).soft hlo
  have hH : HoldsK encP 2 w lo.blk bo l.toArray := by
    intro t ht
    rw [size_flatK] at ht
    have hk : (flatK encP 2 l.toArray)[t]! = (flatX l)[t]! := by rw [flatK_eq]; simp
    have ht' : t < (flatX l).length := by rw [flatX_length]; simp at ht; omega
    refine ⟨?_, Soft.froz (a := ⟨lo.blk, bo + t, none⟩) hsoft⟩
    rw [hk, getElem!_pos (flatX l) t ht']
    have := hxc t _ (List.getElem?_eq_getElem ht')
    by_cases h0 : t = 0
    · subst h0; simpa [Addr.add] using this
    · simpa [Addr.add, h0] using this
  have hlaw := Proofs.AnyQ.slices_SortFunc L 2 aE zE encP (fun _ => rfl) (fun x v hv => by simp [encP] at hv; rcases hv with rfl | rfl <;> rfl) cfP swoP g #[] lo.blk bo c l.toArray w eg (hcmp _ _ _ _) hH hdom.1 (by simp [hl]; omega)
  have hsize : l.toArray.size = j + 1 := by simp [hl]
  rw [hsize] at hlaw
  refine hlaw.mono ?_
  rintro e w' ⟨rfl, d', n, os, hperm, hsorted, rfl⟩
  have hd' : d'.toList = S := by
    refine sort_unique (l := l) ?_ ?_ (hS.trans hp.symm) hSS
    · rw [hl]; exact hperm
    · rw [hl]; exact hsorted
  have hw : H.write ⟨fo, j, 0⟩ (flatP S) = some (H.setObj fo (.cells (M.puts 0 (flatP S)))) := by
    have hfam : H.fam fo = some M := by simp [Heap.fam, hM]
    have k : (Nat.beq j M.ep && Nat.ble (0 + (flatP S).length) M.size && Nat.blt 0 (flatP S).length) = true := by
      rw [nbeq, nble, nblt, flatP_length, hSl, hep, hsz]; simp
    simp only [Heap.write, hfam, k, cond_true]
  obtain ⟨q1, q2⟩ := R.sorted (a := ⟨fo, j, 0⟩) (n := n) (os := os) hlo hrow hb2 hw hd' hH hperm.1
  exact ⟨_, Φ, rfl, .tuple (xs := #[]) .nil, q1, q2⟩
end Go.Sk

/-
  SK, PART CC. The loop that collects a map's keys, in whatever order they come.
-/
namespace Go.Sk
variable {D : List Deferred} {P : Program} {cx : Cx} {G : Nat} {ρ : Nat → Int} {T : TT}

def loopBody (i5 ty : Nat) (p5 : String) (e5 : Array Edge) (o5 : Oper) (cB : Code) : Code :=
  .seq (.region i5 #[⟨some 14, .next (.tmp 13) false, ty, p5, e5, none⟩, o5] false) (.seq (.cond (.tmp 15) .skip (.exit 0)) cB)

theorem nodup_len : ∀ {l1 l2 : List Nat}, l1.Nodup → (∀ x ∈ l1, x ∈ l2) → l1.length ≤ l2.length
  | [], _, _, _ => Nat.zero_le _
  | a :: l, l2, hn, hs => by
    simp only [List.nodup_cons] at hn
    have ha := hs a (List.mem_cons_self ..)
    have := nodup_len (l2 := l2.erase a) hn.2 fun x hx => (List.mem_erase_of_ne (fun h => hn.1 (by subst h; exact hx))).2 (hs x (List.mem_cons_of_mem _ hx))
    rw [List.length_erase_of_mem ha] at this
    have := List.length_pos_of_mem ha
    simp only [List.length_cons]
    omega
theorem nodup_of_map {l : List (V × V × Nat)} (h : (l.map (·.2.2)).Nodup) : l.Nodup := by
  induction l with
  | nil => exact List.nodup_nil
  | cons a l ih =>
    simp only [List.map_cons, List.nodup_cons] at h ⊢
    exact ⟨fun hm => h.1 (List.mem_map_of_mem hm), ih h.2⟩
theorem born_inj {es : List (V × V × Nat)} (hnd : (es.map (·.2.2)).Nodup) {a b : V × V × Nat} (ha : a ∈ es) (hb : b ∈ es) (h : a.2.2 = b.2.2) : a = b := by
  have h1 := find_born hnd ha
  have h2 := find_born hnd hb
  rw [h, h2] at h1
  simpa using h1.symm

theorem loop_any (hO : OpsOk P cx G ρ T) (hm : P.follows .mixedOrders = true) {rec : Rec} (hrec : RecOk P cx G ρ rec) {N i5 ty : Nat} {p5 : String} {e5 : Array Edge} {o5 : Oper} {cB : Code} {a5 : SOper} {rd : List Nat} {dm : Nat} {q : Nat → List Nat × Nat}
    (hl5 : compOpers T cx #[⟨some 14, .next (.tmp 13) false, ty, p5, e5, none⟩, o5] [] [⟨some 14, .next (.tmp 13) false, ty, p5, e5, none⟩, o5] = some [a5, ⟨1, some 15, none, .pure (oExtract (.tmp 14) 0), rd, dm⟩])
    (hN5 : dstsIn N [a5, ⟨1, some 15, none, .pure (oExtract (.tmp 14) 0), rd, dm⟩] = true) (h14 : 14 < N)
    (hcB : compCode T cx cB = some (dcB cx q)) (hNB : dstsOk N (dcB cx q) = true)
    {n1 r0 m clock : Nat} {es : List (V × V × Nat)} {base : Tr Obj} (hp : ∀ e ∈ es, isPair e.1) (hnd : (es.map (·.2.2)).Nodup) (hlt : ∀ e ∈ es, e.2.2 < clock) (hr0 : r0 < n1) (hmn : m < n1) (hlen : es.length < 1000000)
    {Q : Exit → Act → World → Prop} : ∀ (k : Nat) {pk : List (V × V × Nat)} {env : Env} {H : Heap} {Φ : Emb} {a : Act} {w : World}, pk.length + k = es.length + 1 → (pk.map (·.2.2)).Nodup → (∀ e ∈ pk, e ∈ es) →
      LS n1 r0 m clock es base pk env H → AtR D cx G ρ N Φ env H a w → (∀ f e, H.next ≤ f → f < nxOf n1 es.length → Φ f e = none) →
      (∀ Φ' pk' env' H' a' w', pk'.Perm es → LS n1 r0 m clock es base pk' env' H' → AtR D cx G ρ N Φ' env' H' a' w' → Ext Φ H w Φ' H' w' → Q (.exit 0) a' w') →
      Code.rounds P (loopBody i5 ty p5 e5 o5 cB) Q k a w := by
  intro k
  induction k with
  | zero =>
    intro pk env H Φ a w hk hn hs
    exfalso
    have h1 := nodup_len hn (l2 := es.map (·.2.2)) (fun x hx => by
      obtain ⟨e, he, rfl⟩ := List.mem_map.1 hx
      exact List.mem_map_of_mem (hs e he))
    simp at h1; omega
  | succ k ih =>
    intro pk env H Φ a w hk hn hs hL hA hF hQ
    rw [rounds_succ]
    unfold loopBody
    refine wp_seq (wp_region ?_)
    show wpOps P _ _ [0, 1] a w
    rw [wpOps_cons]
    unfold wpOp
    simp only [List.getElem?_toArray, List.getElem?_cons_zero, Region.wanted, if_true]
    refine .inl ?_
    obtain ⟨x13, j1, j2⟩ := hA.2.1 13 _ hL.it
    have hev : a.eval (.tmp 13) = x13 := by simp [Act.eval, j1]
    obtain ⟨hlen5, hsp⟩ := opers_spec (N := N) hO hl5
    have hsp' : ∀ (j : Nat) d, [(⟨1, some 15, none, .pure (oExtract (.tmp 14) 0), rd, dm⟩ : SOper)][j]? = some d → ∃ o, (#[⟨some 14, .next (.tmp 13) false, ty, p5, e5, none⟩, o5] : Array Oper)[1 + j]? = some o ∧ OperR P cx G ρ #[⟨some 14, .next (.tmp 13) false, ty, p5, e5, none⟩, o5] N o d := by
      intro j d hd
      cases j with
      | zero =>
        obtain ⟨_, o, k1, k2, _⟩ := hsp 1 d (by simpa using hd) (fun t ht => dstsIn_all hN5 d (by simp at hd; simp [hd]) t ht)
        exact ⟨o, by simpa using k1, k2⟩
      | succ j => simp at hd
    have hstep : ∀ {tv : V} {b : Bool} {y : Value} {H1 : Heap} {w1 : World} (rest : List V), tv = .tuple (.bool b :: rest) → (Instr.next (a.eval (.tmp 13)) false ty).run P w = .ok y w1 → VR ρ Φ tv y → Rel cx G ρ Φ H1 w1 → Ext Φ H w Φ H1 w1 →
        ∀ (K Q' : Exit → Act → World → Prop), (∀ Φ' a' w', AtR D cx G ρ N Φ' ((env.put 14 (some tv)).put 15 (some (.bool b))) H1 a' w' → Ext Φ H1 w1 Φ' H1 w' → K .normal a' w') →
        Oper.wp P ⟨some 14, .next (.tmp 13) false, ty, p5, e5, none⟩ a w (wpOps P #[⟨some 14, .next (.tmp 13) false, ty, p5, e5, none⟩, o5] K [1]) Q' := by
      intro tv b y H1 w1 rest htv hrun hy R1 X1 K Q' hK
      unfold Oper.wp
      have hx : (execOp a.eval (⟨some 14, .next (.tmp 13) false, ty, p5, e5, none⟩ : Oper)).run P w = .ok (.value y) w1 := by
        simp only [execOp]
        rw [Sem.run_bind, hrun]
        rfl
      rw [hx, Oper.upon_value]
      show wpOps P _ K (List.range' 1 [(⟨1, some 15, none, .pure (oExtract (.tmp 14) 0), rd, dm⟩ : SOper)].length) (a.put (some 14) y) w1
      refine runOps_ok hrec _ 1 hsp' (hA.put (d := some 14) R1 X1.le (fun t ht => by cases ht; exact h14) hy) (fun f e h1 h2 => by omega) (env' := (env.put 14 (some tv)).put 15 (some (.bool b))) (H' := H1) ?_ hK
      subst htv
      simp [runOps, wanted, runOp, putDst, oExtract, eval, Tr.get_put]
    rcases next_any (P := P) (ty := ty) hA.1 hL.iter hL.map hlt (Nat.le_refl _) j2 with ⟨hall, hrun⟩ | ⟨e, he, hne, y, w1, hrun, hy, R1, X1⟩
    · refine hstep [] rfl (by rw [hev]; exact hrun) (.tuple (xs := #[.bool false]) (.cons (.bool false) .nil)) hA.1 (Ext.refl _ _ _) _ _ fun Φ' a' w' hA1 hX1 => ?_
      show Code.wp P _ _ a' w'
      obtain ⟨x15, k1, k2⟩ := hA1.2.1 15 (.bool false) (by simp [Tr.get_put])
      have hc : a'.eval (.tmp 15) = .bool false := by cases k2; simp [Act.eval, k1]
      refine wp_seq (wp_cond_false hc (wp_exit ?_))
      show Q (.exit 0) a' w'
      refine hQ Φ' pk _ H a' w' ?_ ⟨?_, ?_, hL.iter, hL.map, hL.next, hL.row, hL.base⟩ hA1 hX1
      · refine (List.perm_ext_iff_of_nodup (nodup_of_map hn) (nodup_of_map hnd)).2 fun x => ⟨hs x, fun hx => ?_⟩
        obtain ⟨z, hz, hzb⟩ := List.mem_map.1 (hall x hx)
        rw [← born_inj hnd (hs z hz) hx hzb]; exact hz
      · simp [Tr.get_put, hL.it]
      · simp [Tr.get_put, hL.out]
    · have hn' : ((pk ++ [e]).map (·.2.2)).Nodup := by
        rw [List.map_append, List.nodup_append]
        refine ⟨hn, by simp, fun x hx y hy => ?_⟩
        simp at hy
        rintro rfl
        exact hne (by rw [← hy]; simpa using hx)
      have hs' : ∀ x ∈ pk ++ [e], x ∈ es := fun x hx => by
        rcases List.mem_append.1 hx with h | h
        · exact hs x h
        · simp at h; subst h; exact he
      have hlen' : pk.length + 1 ≤ es.length := by
        have := nodup_len hn' (l2 := es.map (·.2.2)) (fun x hx => by
          obtain ⟨z, hz, rfl⟩ := List.mem_map.1 hx
          exact List.mem_map_of_mem (hs' z hz))
        simpa using this
      refine hstep [e.1, e.2.1] rfl (by rw [hev]; exact hrun) hy R1 X1 _ _ fun Φ' a' w' hA1 hX1 => ?_
      show Code.wp P _ _ a' w'
      obtain ⟨x15, k1, k2⟩ := hA1.2.1 15 (.bool true) (by simp [Tr.get_put])
      have hc : a'.eval (.tmp 15) = .bool true := by cases k2; simp [Act.eval, k1]
      refine wp_seq (wp_cond_true hc (wp_skip ?_))
      show Code.wp P cB _ a' w'
      obtain ⟨env2, H2, hex, hL2⟩ := round_sk (rec := rec) (n := 0) (q := q) (cx := cx) (tv := .tuple [.bool true, e.1, e.2.1]) hL hp hnd hs hr0 hmn (by omega) he
      have hH2 : H2.next ≤ nxOf n1 es.length := by
        rw [hL2.next]
        simp only [List.length_append, List.length_cons, List.length_nil]
        obtain ⟨z, hz⟩ : ∃ z, es.length = z + 1 := ⟨es.length - 1, by omega⟩
        rw [hz]
        simp only [nxOf, Nat.zero_add]
        omega
      have hF1 : Free Φ' (H.setObj r0 (.miter (some m) clock (pk.map (·.2.2) ++ [e.2.2]) clock)).next H2.next := fun f e' h1 h2 => by
        rw [hX1.far f h1]
        exact hF f e' h1 (Nat.lt_of_lt_of_le h2 hH2)
      refine exec_ok hO hm hrec cB hcB hNB 0 hex hA1 hF1 fun Φ2 a2 w2 hA2 hX2 => ?_
      show Code.rounds P _ Q k a2 w2
      have hf0 : Free Φ H.next (H.setObj r0 (.miter (some m) clock (pk.map (·.2.2) ++ [e.2.2]) clock)).next := fun f e' h1 h2 => absurd h2 (Nat.not_lt.2 h1)
      have X11 := X1.trans hf0 hX1
      have X12 : Ext Φ H w Φ2 H2 w2 := X11.trans hf0 hX2
      refine ih (by simp; omega) hn' hs' hL2 hA2 (fun f e' h1 h2 => ?_) ?_
      · rw [hX2.far f h1, hX1.far f (Nat.le_trans hX2.next h1)]
        exact hF f e' (Nat.le_trans hX2.next h1) h2
      · intro Φ3 pk3 env3 H3 a3 w3 g1 g2 g3 g4
        refine hQ Φ3 pk3 env3 H3 a3 w3 g1 g2 g3 (X12.trans (fun f e' h1 h2 => ?_) g4)
        exact hF f e' h1 (Nat.lt_of_lt_of_le h2 hH2)
end Go.Sk

/-
  SK, PART CD. A function that collects the pairs of a map, sorts them, and hands them back: what stands for it in the abstract machine.
-/
namespace Go.Sk
open Go.Sort Go.Shelf
variable {P : Program} {cx : Cx} {G : Nat} {ρ : Nat → Int} {T : TT}

/-! The pairs, sorted. -/
def ltB (a b : Pr) : Bool := Nat.blt a.1.val b.1.val || (Nat.beq a.1.val b.1.val && Nat.blt a.2.val b.2.val)
def insP (a : Pr) : List Pr → List Pr
  | [] => [a]
  | b :: l => bif ltB b a then b :: insP a l else a :: b :: l
def srtP : List Pr → List Pr
  | [] => []
  | a :: l => insP a (srtP l)
theorem ltB_eq (a b : Pr) : ltB a b = Proofs.ltOf cfP a b := by
  rw [ltP_iff]
  unfold ltB
  rw [nblt, nblt, nbeq]
  simp [Bool.decide_or, Bool.decide_and]
theorem insP_perm (a : Pr) : ∀ l, (insP a l).Perm (a :: l)
  | [] => List.Perm.refl _
  | b :: l => by
    unfold insP
    cases ltB b a with
    | false => exact List.Perm.refl _
    | true => exact ((insP_perm a l).cons b).trans (List.Perm.swap a b l)
theorem srtP_perm : ∀ l, (srtP l).Perm l
  | [] => List.Perm.refl _
  | a :: l => (insP_perm a _).trans ((srtP_perm l).cons a)
theorem insP_sorted (a : Pr) : ∀ l : List Pr, (l.Pairwise fun a b => Proofs.ltOf cfP b a = false) → (insP a l).Pairwise fun a b => Proofs.ltOf cfP b a = false
  | [], _ => by simp [insP]
  | b :: l, h => by
    unfold insP
    rw [List.pairwise_cons] at h
    cases hb : ltB b a with
    | true =>
      rw [cond_true, List.pairwise_cons]
      refine ⟨fun c hc => ?_, insP_sorted a l h.2⟩
      rcases List.mem_cons.1 ((insP_perm a l).mem_iff.1 hc) with rfl | hc
      · rw [ltB_eq] at hb
        rw [ltP_iff] at hb ⊢
        simp only [decide_eq_true_eq, decide_eq_false_iff_not] at hb ⊢
        omega
      · exact h.1 c hc
    | false =>
      rw [cond_false, List.pairwise_cons]
      rw [ltB_eq] at hb
      refine ⟨fun c hc => ?_, by rw [List.pairwise_cons]; exact h⟩
      rcases List.mem_cons.1 hc with rfl | hc
      · exact hb
      · exact swoP.ntrans _ _ _ (h.1 c hc) hb
theorem srtP_sorted : ∀ l, (srtP l).Pairwise fun a b => Proofs.ltOf cfP b a = false
  | [] => List.Pairwise.nil
  | a :: l => insP_sorted a _ (srtP_sorted l)

/-! The pairs of a map. -/
def prOf (v : V) : Option Pr :=
  match v with
  | .agg [.int .i64 (.lit (.ofNat x)), .int .i64 (.lit (.ofNat y))] => if h : x < 65536 ∧ y < 65536 then some (⟨x, h.1⟩, ⟨y, h.2⟩) else none
  | _ => none
theorem prOf_some {v : V} {p : Pr} (h : prOf v = some p) : v = .agg (vP p) := by
  unfold prOf at h
  split at h
  · split at h
    · simp at h; subst h; rfl
    · cases h
  · cases h
def prsOf : List (V × V × Nat) → Option (List Pr)
  | [] => some []
  | e :: l => match prOf e.1 with
    | none => none
    | some p => match prsOf l with
      | none => none
      | some ps => some (p :: ps)
def prD (e : V × V × Nat) : Pr := (prOf e.1).getD default
theorem prsOf_some : ∀ {es : List (V × V × Nat)} {ps : List Pr}, prsOf es = some ps → ps = es.map prD ∧ ∀ e ∈ es, e.1 = .agg (vP (prD e))
  | [], ps, h => by simp [prsOf] at h; subst h; exact ⟨rfl, fun e he => by cases he⟩
  | e :: l, ps, h => by
    simp only [prsOf] at h
    split at h
    · cases h
    · rename_i p hp
      split at h
      · cases h
      · rename_i qs hq
        simp at h; subst h
        obtain ⟨h1, h2⟩ := prsOf_some hq
        have hd : prD e = p := by simp [prD, hp]
        refine ⟨by rw [List.map_cons, hd, ← h1], fun x hx => ?_⟩
        rcases List.mem_cons.1 hx with rfl | hx
        · rw [hd]; exact prOf_some hp
        · exact h2 x hx
theorem rowOf_eq : ∀ {pk : List (V × V × Nat)}, (∀ e ∈ pk, e.1 = .agg (vP (prD e))) → rowOf pk = flatP (pk.map prD)
  | [], _ => rfl
  | e :: l, h => by
    have := rowOf_eq (pk := l) fun x hx => h x (List.mem_cons_of_mem _ hx)
    simp only [rowOf, flatP, List.map_cons, List.flatten_cons] at this ⊢
    rw [this, h e (List.mem_cons_self ..)]
    rfl
/-- Births go up, and lie below a bound. -/
def bornsOk (lo clock : Nat) : List (V × V × Nat) → Bool
  | [] => true
  | e :: l => Nat.ble lo e.2.2 && (Nat.blt e.2.2 clock && bornsOk (e.2.2 + 1) clock l)
theorem bornsOk_all {clock : Nat} : ∀ {es : List (V × V × Nat)} {lo : Nat}, bornsOk lo clock es = true → (∀ e ∈ es, lo ≤ e.2.2 ∧ e.2.2 < clock) ∧ (es.map (·.2.2)).Nodup
  | [], lo, _ => ⟨fun e he => (nomatch he), List.nodup_nil⟩
  | e :: l, lo, h => by
    simp only [bornsOk, nble, nblt, Bool.and_eq_true, decide_eq_true_eq] at h
    obtain ⟨h1, h2, h3⟩ := h
    obtain ⟨h4, h5⟩ := bornsOk_all h3
    refine ⟨fun x hx => ?_, ?_⟩
    · rcases List.mem_cons.1 hx with rfl | hx
      · exact ⟨h1, h2⟩
      · have := h4 x hx; omega
    · rw [List.map_cons, List.nodup_cons]
      refine ⟨fun hm => ?_, h5⟩
      obtain ⟨x, hx, hxe⟩ := List.mem_map.1 hm
      have := h4 x hx; omega

/-- What is handed back. -/
noncomputable def clashAns (n1 r0 : Nat) (h4 : Heap) (j : Nat) (S : List Pr) : V × Heap :=
  (.slice (some ⟨n1 + 2, j, 0⟩) (j + 1) 2, { next := nxOf n1 (j + 1), objs := (h4.objs.put r0 none).put (n1 + 2) (some (.cells (Fam.puts { ep := j, size := 2 * (j + 1), cells := .nil } 0 (flatP S)))) })
noncomputable def clashTail (e4 : Env) (h4 : Heap) : Option (V × Heap) :=
  match e4.get 3 with
  | some (.slice none 0 0) => (match e4.get 13 with
    | some (.iter r0) => (match h4.objs.get r0 with
      | some (.miter (some m) since [] clock) => (match h4.objs.get m with
        | some (.map es clock') =>
          bif Nat.beq since clock && (Nat.beq clock' clock && (Nat.blt r0 h4.next && (Nat.blt m h4.next && (bornsOk 0 clock es && Nat.blt es.length 1000000)))) then
            (match prsOf es with
              | some (p :: ps) => some (clashAns h4.next r0 h4 ps.length (srtP (p :: ps)))
              | _ => none)
          else none
        | _ => none)
      | _ => none)
    | _ => none)
  | _ => none
noncomputable def clashHook (n : Nat) (d0 d1 d3 d4 : DC) : Hook := fun rec args h =>
  match exec rec n d0 (envOf args 0 .nil) h with
  | .ok .normal e1 h1 => (match exec rec n d1 e1 h1 with
    | .ok .normal e2 h2 => (match exec rec n d3 e2 h2 with
      | .ok .normal e3 h3 => (match exec rec n d4 e3 h3 with
        | .ok .normal e4 h4 => clashTail e4 h4
        | _ => none)
      | _ => none)
    | _ => none)
  | _ => none
noncomputable def dcE (fsort fcmp : Nat) (q : Nat → List Nat × Nat) : DC :=
  .seq (.region [⟨0, some 22, none, .pure (oMove (.tmp 3)), (q 9).1, (q 9).2⟩, ⟨1, some 23, none, .call (oCall fsort [.tmp 22, .func fcmp]), (q 10).1, (q 10).2⟩])
    (.seq (.region [⟨0, some 24, none, .pure (oMove (.tmp 3)), (q 11).1, (q 11).2⟩, ⟨1, some 2, none, .pure (oMove (.tmp 24)), (q 12).1, (q 12).2⟩]) .ret)

theorem ObjR.cells_sub {Φ : Emb} {w : World} {f : Nat} {m m' : Fam} (h : ObjR ρ Φ w f (.cells m)) (he : m'.ep = m.ep) (hs : m'.size = m.size) (hg : ∀ p v lo, m'.cells.get p = some (v, lo) → m.cells.get p = some (v, lo)) :
    ObjR ρ Φ w f (.cells m') := by
  obtain ⟨h1, h2, h3, h4⟩ := h
  refine ⟨by rw [he]; exact h1, fun p v lo hp hq => by rw [he]; exact h2 p v lo (by rw [← hs]; exact hp) (hg _ _ _ hq), by rw [he, hs]; exact h3, fun e hee => ?_⟩
  obtain ⟨l, k1, k2, arr, t, k3, k4, k5⟩ := h4 e (by rw [← he]; exact hee)
  exact ⟨l, k1, k2, arr, t, k3, k4, fun p v lo hp hq hlo => k5 p v lo (by rw [← hs]; exact hp) (hg _ _ _ hq) hlo⟩

theorem clashTail_some {e4 : Env} {h4 : Heap} {v : V} {h' : Heap} (h : clashTail e4 h4 = some (v, h')) : ∃ r0 m clock es ps, e4.get 3 = some (.slice none 0 0) ∧ e4.get 13 = some (.iter r0) ∧ h4.objs.get r0 = some (.miter (some m) clock [] clock) ∧
    h4.objs.get m = some (.map es clock) ∧ r0 < h4.next ∧ m < h4.next ∧ bornsOk 0 clock es = true ∧ es.length < 1000000 ∧ prsOf es = some ps ∧ ∃ j, ps.length = j + 1 ∧ (v, h') = clashAns h4.next r0 h4 j (srtP ps) := by
  unfold clashTail at h
  split at h
  case h_2 => cases h
  rename_i k3
  split at h
  case h_2 => cases h
  rename_i r0 k13
  split at h
  case h_2 => cases h
  rename_i m since clock ki
  split at h
  case h_2 => cases h
  rename_i es clock' km
  cases hc : (Nat.beq since clock && (Nat.beq clock' clock && (Nat.blt r0 h4.next && (Nat.blt m h4.next && (bornsOk 0 clock es && Nat.blt es.length 1000000))))) with
  | false => rw [hc] at h; cases h
  | true =>
    rw [hc, cond_true] at h
    simp only [nbeq, nblt, Bool.and_eq_true, decide_eq_true_eq] at hc
    obtain ⟨rfl, rfl, q1, q2, q3, q4⟩ := hc
    split at h
    case h_2 => cases h
    rename_i p ps hps
    simp only [Option.some.injEq] at h
    exact ⟨r0, m, _, es, p :: ps, k3, k13, ki, km, q1, q2, q3, q4, hps, ps.length, rfl, h.symm⟩

theorem clashHook_some {n : Nat} {d0 d1 d3 d4 : DC} {rec : Rec} {args : List V} {h : Heap} {v : V} {h' : Heap} (hv : clashHook n d0 d1 d3 d4 rec args h = some (v, h')) :
    ∃ e1 h1 e2 h2 e3 h3 e4 h4, exec rec n d0 (envOf args 0 .nil) h = .ok .normal e1 h1 ∧ exec rec n d1 e1 h1 = .ok .normal e2 h2 ∧ exec rec n d3 e2 h2 = .ok .normal e3 h3 ∧ exec rec n d4 e3 h3 = .ok .normal e4 h4 ∧ clashTail e4 h4 = some (v, h') := by
  unfold clashHook at hv
  split at hv
  case h_2 => cases hv
  rename_i e1 h1 x1
  split at hv
  case h_2 => cases hv
  rename_i e2 h2 x2
  split at hv
  case h_2 => cases hv
  rename_i e3 h3 x3
  split at hv
  case h_2 => cases hv
  rename_i e4 h4 x4
  exact ⟨e1, h1, e2, h2, e3, h3, e4, h4, x1, x2, x3, x4, hv⟩

/-- The part of a heap that is wanted. -/
theorem Rel.cut {Φ : Emb} {H H' : Heap} {w : World} (R : Rel cx G ρ Φ H w) (ho : ∀ f o, H'.objs.get f = some o → ObjR ρ Φ w f o) (hlt : ∀ f o, H'.objs.get f = some o → f < H'.next) : Rel cx G ρ Φ H' w :=
  ⟨ho, R.inj, R.dom, R.glob, R.asm, hlt, R.sz, R.kind⟩
theorem Ext.cut {Φ Φ' : Emb} {H H' H'' : Heap} {w w' : World} (X : Ext Φ H w Φ' H' w') (hn : H''.next = H'.next) (ho : ∀ f, H''.objs.get f ≠ none → H'.objs.get f ≠ none) : Ext Φ H w Φ' H'' w' :=
  ⟨X.same, X.le, fun f hf => X.far f (by rw [← hn]; exact hf), X.frame, X.grow, X.new, by rw [hn]; exact X.next, fun f hf => by rw [hn]; exact X.objs f (ho f hf)⟩

theorem clashHook_ok (hO : OpsOk P cx G ρ T) (hm : P.follows .mixedOrders = true) (hT : TTok P T) {n f g : Nat} {fn : Func} {c0 c1 c3 c4 cB cE : Code} {d0 d1 d3 d4 : DC} {i5 ty : Nat} {p5 : String} {e5 : Array Edge} {o5 : Oper} {a5 : SOper} {rd : List Nat} {dm : Nat} {q : Nat → List Nat × Nat}
    {re : Ren} (L : Proofs.SlLaysF0.n6 P re) (aE : ∀ w, (isAgg (re.t 24)).run P w = .ok true w) (zE : ∀ w, (Go.sizeOf (re.t 24)).run P w = .ok 2 w)
    (eg : ∀ args w, (callFunc g args).run P w = .ok (.enter g args) w) (es : ∀ args w, (callFunc (re.f 6) args).run P w = .ok (.enter (re.f 6) args) w)
    (hcmp : ∀ blk off size w, Proofs.CmpLays P g #[] encP 2 cfP blk off size w)
    (h1 : P.funcs[f]? = some fn) (h2 : fn.body = some (.seq c0 (.seq c1 (.seq c3 (.seq (.seq c4 (.block 0 (.loop (loopBody i5 ty p5 e5 o5 cB)))) cE))))) (h3 : (fn.name == "runtime.NumGoroutine") = false)
    (hc0 : compCode T cx c0 = some d0) (hc1 : compCode T cx c1 = some d1) (hc3 : compCode T cx c3 = some d3) (hc4 : compCode T cx c4 = some d4)
    (hl5 : compOpers T cx #[⟨some 14, .next (.tmp 13) false, ty, p5, e5, none⟩, o5] [] [⟨some 14, .next (.tmp 13) false, ty, p5, e5, none⟩, o5] = some [a5, ⟨1, some 15, none, .pure (oExtract (.tmp 14) 0), rd, dm⟩])
    (hcB : compCode T cx cB = some (dcB cx q)) (hcE : compCode T cx cE = some (dcE (re.f 6) g q))
    (hN0 : dstsOk fn.ntmps d0 = true) (hN1 : dstsOk fn.ntmps d1 = true) (hN3 : dstsOk fn.ntmps d3 = true) (hN4 : dstsOk fn.ntmps d4 = true)
    (hN5 : dstsIn fn.ntmps [a5, ⟨1, some 15, none, .pure (oExtract (.tmp 14) 0), rd, dm⟩] = true) (hN : 24 < fn.ntmps) (hr : compRes T fn.results.toList = some [.tmp 2])
    {rec : Rec} (ih : RecOk P cx G ρ rec) {args : List V} {h : Heap} {v : V} {h' : Heap} (hv : clashHook n d0 d1 d3 d4 rec args h = some (v, h')) : RecAt P cx G ρ f args h v h' := by
  obtain ⟨e1, hp1, e2, hp2, e3, hp3, e4, hp4, x0, x1, x3, x4, ht⟩ := clashHook_some hv
  obtain ⟨r0, m, clock, ent, ps, k3, k13, ki, km, hr0, hmn, hborn, hlen, hps, j, hj, hans⟩ := clashTail_some ht
  obtain ⟨hps1, hps2⟩ := prsOf_some hps
  obtain ⟨hb1, hb2⟩ := bornsOk_all hborn
  have hplen : ent.length = j + 1 := by rw [← hj, hps1]; simp
  simp only [clashAns, Prod.mk.injEq] at hans
  obtain ⟨rfl, rfl⟩ := hans
  have r1 := exec_rise hO ih c0 hc0 hN0 n x0
  have r2 := exec_rise hO ih c1 hc1 hN1 n x1
  have r3 := exec_rise hO ih c3 hc3 hN3 n x3
  have r4 := exec_rise hO ih c4 hc4 hN4 n x4
  have r5 : hp4.next ≤ nxOf hp4.next (j + 1) := by simp only [nxOf]; omega
  refine ⟨by simp only; omega, fun xs w => ?_, fun Φ w xs R hA hF => ?_⟩
  · have h3' : fn.name ≠ "runtime.NumGoroutine" := by simpa using h3
    simp [callFunc, h1, h2, h3']
  simp only at hF
  have hNB : dstsOk fn.ntmps (dcB cx q) = true := by
    have : ∀ k, k ≤ 24 → Nat.blt k fn.ntmps = true := fun k hk => by rw [nblt]; simp; omega
    simp [dcB, dstsOk, dstsIn, this]
  have hNE : dstsOk fn.ntmps (dcE (re.f 6) g q) = true := by
    have : ∀ k, k ≤ 24 → Nat.blt k fn.ntmps = true := fun k hk => by rw [nblt]; simp; omega
    simp [dcE, dstsOk, dstsIn, this]
  refine calls_of_wp h1 h2 (wp_seq (exec_ok (D := []) hO hm ih c0 hc0 hN0 n x0 (Φ := Φ) (w := w) ⟨R, ?_, ?_, rfl⟩ ?_ ?_))
  · intro t u hu
    rw [envOf_get] at hu
    split at hu
    · rename_i hlt
      obtain ⟨y, k1, k2⟩ := hA.get hu
      refine ⟨y, ?_, k2⟩
      simp only [Nat.sub_zero] at k1
      rw [Array.getElem?_append_left (by have := hA.length; simp at hlt this; omega)]
      simpa using k1
    · rw [Tr.get_nil] at hu; cases hu
  · simp; omega
  · exact fun f e q1 q2 => hF f e q1 (by omega)
  intro Φ1 a1 w1 A1 X1
  show Code.wp P _ _ a1 w1
  refine wp_seq (exec_ok hO hm ih c1 hc1 hN1 n x1 A1 (fun f e q1 q2 => ?_) ?_)
  · rw [X1.far f q1]; exact hF f e (by omega) (by omega)
  intro Φ2 a2 w2 A2 X2
  have F1 : Free Φ h.next hp1.next := fun f e q1 q2 => hF f e q1 (by omega)
  have X2' := X1.trans F1 X2
  show Code.wp P _ _ a2 w2
  refine wp_seq (exec_ok hO hm ih c3 hc3 hN3 n x3 A2 (fun f e q1 q2 => ?_) ?_)
  · rw [X2'.far f q1]; exact hF f e (by omega) (by omega)
  intro Φ3 a3 w3 A3 X3
  have F2 : Free Φ h.next hp2.next := fun f e q1 q2 => hF f e q1 (by omega)
  have X3' := X2'.trans F2 X3
  show Code.wp P _ _ a3 w3
  refine wp_seq (wp_seq (exec_ok hO hm ih c4 hc4 hN4 n x4 A3 (fun f e q1 q2 => ?_) ?_))
  · rw [X3'.far f q1]; exact hF f e (by omega) (by omega)
  intro Φ4 a4 w4 A4 X4
  have F3 : Free Φ h.next hp3.next := fun f e q1 q2 => hF f e q1 (by omega)
  have X4' := X3'.trans F3 X4
  have F4 : Free Φ h.next hp4.next := fun f e q1 q2 => hF f e q1 (by omega)
  show Code.wp P _ _ a4 w4
  have hpair : ∀ e ∈ ent, isPair e.1 := fun e he => ⟨_, _, hps2 e he⟩
  refine wp_block (wp_loop_rounds (ent.length + 1) (loop_any (D := []) hO hm ih hl5 hN5 (by omega) hcB hNB (n1 := hp4.next) (r0 := r0) (m := m) (clock := clock) (base := hp4.objs) hpair hb2 (fun e he => (hb1 e he).2) hr0 hmn hlen
    (ent.length + 1) (pk := []) (env := e4) (H := hp4) (by simp) List.nodup_nil (fun e he => (nomatch he))
    ⟨k13, k3, ki, km, rfl, fun hh => absurd rfl hh, fun _ _ _ => rfl⟩ A4 (fun f e q1 q2 => ?_) ?_))
  · rw [X4'.far f q1, ← hplen] at *
    exact hF f e (by omega) (by rw [hplen] at q2; exact q2)
  intro Φ5 pk e5' H5 a5' w5 hperm hL A5 X5
  have hpl : pk.length = j + 1 := by rw [hperm.length_eq, hplen]
  have X5' := X4'.trans F4 X5
  simp only [Exit.inBlock, if_true]
  show Code.wp P cE _ a5' w5
  obtain ⟨M, m1, m2, m3, m4⟩ := hL.row (by intro hh; rw [hh] at hpl; simp at hpl)
  have hpk : ∀ e ∈ pk, e.1 = .agg (vP (prD e)) := fun e he => hps2 e (hperm.mem_iff.1 he)
  rw [rowOf_eq hpk] at m4
  have hout := hL.out
  rw [hpl] at hout m3 m2
  have hn5 := hL.next
  rw [hpl] at hn5
  have hsort := sort_at (P := P) (cx := cx) (G := G) (ρ := ρ) (H := H5) L aE zE eg es hcmp (M := M) (fo := hp4.next + 2) (j := j) (l := pk.map prD) (l0 := ps) (S := srtP ps) (by simp [hpl]) (by omega) m1 (by omega) m3 m4
    (by rw [hps1]; exact hperm.map _) (srtP_perm _) (srtP_sorted _)
  generalize hH6 : H5.setObj (hp4.next + 2) (.cells (M.puts 0 (flatP (srtP ps)))) = H6 at hsort
  have hn6 : H6.next = H5.next := by rw [← hH6]; rfl
  let rec' : Rec := fun f' args' hh => open Classical in if f' = re.f 6 ∧ args' = [V.slice (some ⟨hp4.next + 2, j, 0⟩) (j + 1) 2, .func (.func g) [] []] ∧ hh = H5 then some (.tuple [], H6) else none
  have hrec' : RecOk P cx G ρ rec' := by
    intro f' args' hh v' hh' hx
    simp only [rec'] at hx
    split at hx
    · rename_i hcond
      obtain ⟨rfl, rfl, rfl⟩ := hcond
      simp only [Option.some.injEq, Prod.mk.injEq] at hx
      obtain ⟨rfl, rfl⟩ := hx
      exact hsort
    · cases hx
  have hexE : exec rec' 0 (dcE (re.f 6) g q) e5' H5 = .ok .ret ((((e5'.put 22 (some (outV (hp4.next + 2) (j + 1)))).put 23 (some (.tuple []))).put 24 (some (outV (hp4.next + 2) (j + 1)))).put 2 (some (outV (hp4.next + 2) (j + 1)))) H6 := by
    have hcall : rec' (re.f 6) [outV (hp4.next + 2) (j + 1), .func (.func g) [] []] H5 = some (.tuple [], H6) := by
      simp [rec', outV]
    simp [dcE, exec, runOps, wanted, runOp, putDst, oMove, oCall, evals, eval, Tr.get_put, hout, regionO, thenO, hcall]
  refine exec_ok hO hm hrec' cE hcE hNE 0 hexE A5 (fun f e q1 q2 => by omega) ?_
  intro Φ6 a6 w6 A6 X6
  obtain ⟨ys, y1, y2⟩ := results_ok (vs := [outV (hp4.next + 2) (j + 1)]) hT A6.1 A6.2.1 hr (by simp [Sk.results, Tr.get_put])
  have F5 : Free Φ h.next H5.next := fun f e q1 q2 => hF f e q1 (by omega)
  have X6' := X5'.trans F5 X6
  have hgood : ∀ f o, ((hp4.objs.put r0 none).put (hp4.next + 2) (some (.cells (Fam.puts { ep := j, size := 2 * (j + 1), cells := .nil } 0 (flatP (srtP ps)))))).get f = some o →
      ObjR ρ Φ6 w6 f o ∧ f < nxOf hp4.next (j + 1) ∧ H6.objs.get f ≠ none := by
    intro f o ho
    simp only [Tr.get_put] at ho
    by_cases hf : f = hp4.next + 2
    · subst hf
      rw [if_pos rfl] at ho
      simp only [Option.some.injEq] at ho
      subst ho
      have hg6 : H6.objs.get (hp4.next + 2) = some (.cells (M.puts 0 (flatP (srtP ps)))) := by rw [← hH6]; simp [Heap.setObj, Tr.get_put]
      refine ⟨(A6.1.obj _ _ hg6).cells_sub ?_ ?_ ?_, by simp only [nxOf]; omega, by rw [hg6]; simp⟩
      · rw [Fam.puts_ep, Fam.puts_ep]; simp only; omega
      · rw [Fam.puts_size, Fam.puts_size]; simp only; omega
      · intro p u lo hp
        rw [Fam.puts_get] at hp ⊢
        split at hp
        · rename_i hin
          rw [if_pos hin]
          simp only at hp
          rw [show M.ep = j by omega]; exact hp
        · rw [Tr.get_nil] at hp; cases hp
    · rw [if_neg hf] at ho
      by_cases hf2 : f = r0
      · rw [if_pos hf2] at ho; cases ho
      · rw [if_neg hf2] at ho
        have hlt4 := A4.1.old f o ho
        have hg6 : H6.objs.get f = some o := by
          rw [← hH6]
          simp only [Heap.setObj, Tr.get_put, if_neg hf]
          rw [hL.base f hlt4 hf2]; exact ho
        exact ⟨A6.1.obj _ _ hg6, by simp only [nxOf]; omega, by rw [hg6]; simp⟩
  have hRf := A6.1.cut (H' := { next := nxOf hp4.next (j + 1), objs := (hp4.objs.put r0 none).put (hp4.next + 2) (some (.cells (Fam.puts { ep := j, size := 2 * (j + 1), cells := .nil } 0 (flatP (srtP ps))))) })
    (fun f o ho => (hgood f o ho).1) (fun f o ho => (hgood f o ho).2.1)
  have hXf := X6'.cut (H'' := { next := nxOf hp4.next (j + 1), objs := (hp4.objs.put r0 none).put (hp4.next + 2) (some (.cells (Fam.puts { ep := j, size := 2 * (j + 1), cells := .nil } 0 (flatP (srtP ps))))) })
    (by simp only; omega) (fun f hf => by
      cases ho : ((hp4.objs.put r0 none).put (hp4.next + 2) (some (.cells (Fam.puts { ep := j, size := 2 * (j + 1), cells := .nil } 0 (flatP (srtP ps)))))).get f with
      | none => exact absurd ho hf
      | some o => exact (hgood f o ho).2.2)
  cases y2 with
  | @cons _ y _ ys' hy hnil =>
  cases hnil
  have hres : (Go.results fn a6.tmps).run P w6 = .ok y w6 := by
    rw [results_eq, Array.mapM_eq_mapM_toList]
    simp [y1]
  exact ⟨A6.2.2.2, y, hres, y, Φ6, rfl, hy, hRf, hXf⟩
end Go.Sk
