/-
  THE COMPARISON THAT regs.Clash HANDS TO slices.SortFunc: what it answers, in whatever world.
-/
import Derived.Test.YtmncnjolillclaaGreatDoorS13
import Derived.Test.YtmncnjolillclaaGreatDoorS12
import Derived.Shelf.Lay
import Derived.Ground.SlsfProg
import Derived.Test.YtmncnjolillclaaGreatDoorS08
import Derived.Test.YtmncnjolillclaaGreatDoorS10
set_option maxRecDepth 100000
namespace Go.Sk.Seat
open Go.Proofs Go.Sort

theorem grew_grow {W W' : World} (h : Grew W W') : ∃ q os, W' = grow (W.drewN q) os := by
  refine ⟨W'.drawn - W.drawn, W'.heap.extract W.heap.size, ?_⟩
  obtain ⟨heap, tape, drawn, os, out⟩ := W
  obtain ⟨heap', tape', drawn', os', out'⟩ := W'
  have h1 := h.os
  have h2 := h.out
  have h3 := h.tape
  have h4 := h.drawn
  have h5 := h.old
  have h6 := h.size
  simp only at h1 h2 h3 h4 h5 h6
  subst h1; subst h2; subst h3
  unfold grow World.drewN
  simp only [World.mk.injEq, true_and, and_true]
  refine ⟨?_, by omega⟩
  apply Array.ext_getElem?
  intro i
  by_cases hi : i < heap.size
  · rw [Array.getElem?_append_left hi]; exact h5 i hi
  · rw [Array.getElem?_append_right (by omega), Array.getElem?_extract]
    by_cases hi' : i < heap'.size
    · rw [if_pos (by omega), show heap.size + (i - heap.size) = i by omega]
    · rw [if_neg (by omega), Array.getElem?_eq_none (by omega)]

noncomputable def noGl : Nat → Nat → Option V := fun _ _ => none
def cv (i : Nat) : IE := .var i
def d0 : IE := .op .sub .i64 (.var 0) (.var 2)
def d1 : IE := .op .sub .i64 (.var 1) (.var 3)
def cArgs : List V := [.agg [.int .i64 (.var 0), .int .i64 (.var 1)], .agg [.int .i64 (.var 2), .int .i64 (.var 3)]]
def asA : List (BinOp × IE × IE × Bool) := [(.neq, d0, .lit 0, true)]
def asB : List (BinOp × IE × IE × Bool) := [(.neq, d0, .lit 0, false), (.neq, d1, .lit 0, true)]
def asC : List (BinOp × IE × IE × Bool) := [(.neq, d0, .lit 0, false), (.neq, d1, .lit 0, false)]
/-- Is the answer this one? -/
noncomputable def intIs (r : Option (V × Heap)) (e : IE) : Bool :=
  match r with
  | some (.int k x, _) => decide (k = .i64) && decide (x = e)
  | _ => false
theorem runA : intIs (callN (cxA noGl asA) noOrc (fns noGl asA) 10 173 cArgs heap0) d0 = true := by kernel_rfl
theorem runB : intIs (callN (cxA noGl asB) noOrc (fns noGl asB) 10 173 cArgs heap0) d1 = true := by kernel_rfl
theorem runC : intIs (callN (cxA noGl asC) noOrc (fns noGl asC) 10 173 cArgs heap0) (.lit 0) = true := by kernel_rfl

theorem int_of {r : Option (V × Heap)} {e : IE} (h : intIs r e = true) : ∃ h', r = some (.int .i64 e, h') := by
  unfold intIs at h
  split at h
  · simp only [Bool.and_eq_true, decide_eq_true_eq] at h
    obtain ⟨rfl, rfl⟩ := h
    exact ⟨_, rfl⟩
  · cases h

theorem cmp_any (x y : Pr) (W : World) : Calls Tryz.prog 173 #[.agg (encP x).toArray, .agg (encP y).toArray] W fun e w' => e = .returned (.int .i64 (cfP x y)) ∧ ∃ q os', w' = grow (W.drewN q) os' := by
  let ρ : Nat → Int := fun i => match i with | 0 => x.1.val | 1 => x.2.val | 2 => y.1.val | _ => y.2.val
  have hb := x.1.isLt
  have hb2 := x.2.isLt
  have hb3 := y.1.isLt
  have hb4 := y.2.isLt
  have e0 : d0.ev ρ = (x.1.val : Int) - y.1.val := by
    show opInt .sub .i64 (x.1.val : Int) (y.1.val : Int) = _
    simp [opInt, IntKind.wrap, IntKind.bits, IntKind.signed]; omega
  have e1 : d1.ev ρ = (x.2.val : Int) - y.2.val := by
    show opInt .sub .i64 (x.2.val : Int) (y.2.val : Int) = _
    simp [opInt, IntKind.wrap, IntKind.bits, IntKind.signed]; omega
  have hargs : VRs ρ none0 cArgs [.agg (encP x).toArray, .agg (encP y).toArray] :=
    .cons (.agg (xs := (encP x).toArray) (.cons (.int .i64 (.var 0)) (.cons (.int .i64 (.var 1)) .nil))) (.cons (.agg (xs := (encP y).toArray) (.cons (.int .i64 (.var 2)) (.cons (.int .i64 (.var 3)) .nil))) .nil)
  have main : ∀ (a : List (BinOp × IE × IE × Bool)) (e : IE), intIs (callN (cxA noGl a) noOrc (fns noGl a) 10 173 cArgs heap0) e = true → (∀ o u v r, (o, u, v, r) ∈ a → cmpInt o (u.ev ρ) (v.ev ρ) = r) → e.ev ρ = cfP x y →
      Calls Tryz.prog 173 #[.agg (encP x).toArray, .agg (encP y).toArray] W fun e w' => e = .returned (.int .i64 (cfP x y)) ∧ ∃ q os', w' = grow (W.drewN q) os' := by
    intro a e hr ha he
    obtain ⟨h', hv⟩ := int_of hr
    refine (sim (ρ := ρ) mixed ttOk (methOk noGl a) (extOk noGl a) (fun _ => noOrc_ok) (fnsOk noGl a) (W := W) (fun g o v h => by cases h) ha hv (xs := #[.agg (encP x).toArray, .agg (encP y).toArray]) hargs).mono ?_
    rintro e' W' ⟨z, Φ', rfl, hz, hg⟩
    cases hz
    exact ⟨by rw [← he], grew_grow hg⟩
  by_cases h0 : x.1 = y.1
  · have h0' : (x.1.val : Int) - y.1.val = 0 := by rw [h0]; omega
    by_cases h1 : x.2 = y.2
    · have h1' : (x.2.val : Int) - y.2.val = 0 := by rw [h1]; omega
      refine main asC _ runC ?_ ?_
      · intro o u v r hm
        simp only [asC, List.mem_cons, Prod.mk.injEq, List.not_mem_nil, or_false] at hm
        rcases hm with ⟨rfl, rfl, rfl, rfl⟩ | ⟨rfl, rfl, rfl, rfl⟩
        · rw [e0, h0']; rfl
        · rw [e1, h1']; rfl
      · simp [cfP, h0, IE.ev, h1']
    · have h1' : (x.2.val : Int) - y.2.val ≠ 0 := fun hh => h1 (Fin.ext (by omega))
      refine main asB _ runB ?_ (by simp [cfP, h0, e1])
      intro o u v r hm
      simp only [asB, List.mem_cons, Prod.mk.injEq, List.not_mem_nil, or_false] at hm
      rcases hm with ⟨rfl, rfl, rfl, rfl⟩ | ⟨rfl, rfl, rfl, rfl⟩
      · rw [e0, h0']; rfl
      · rw [e1]; simpa [cmpInt, IE.ev] using h1'
  · have h0' : (x.1.val : Int) - y.1.val ≠ 0 := fun hh => h0 (Fin.ext (by omega))
    refine main asA _ runA ?_ (by simp [cfP, h0, e0])
    intro o u v r hm
    simp only [asA, List.mem_cons, Prod.mk.injEq, List.not_mem_nil, or_false] at hm
    obtain ⟨rfl, rfl, rfl, rfl⟩ := hm
    rw [e0]; simpa [cmpInt, IE.ev] using h0'

theorem cmpLays (blk off size : Nat) (w : World) : CmpLays Tryz.prog 173 #[] encP 2 cfP blk off size w := fun _ _ _ _ x y => cmp_any x y _
end Go.Sk.Seat

/-
  slices.SortFunc OF THE PROGRAM IS THE LIBRARY'S.
-/
set_option maxRecDepth 100000
namespace Go.Proofs
open Go.Shelf
shelf_lay_g SlLaysF0.n6 Slsf 6 at Tryz 172 as Tryz.sortPr
end Go.Proofs

/-
  WHAT strings.Split ANSWERS at the texts that the program asks for.
-/
set_option maxRecDepth 100000
namespace Go.Sk.Seat
noncomputable def spA0 : List V := [.str [97, 99, 116, 111, 114, 32, 97, 102, 116, 101, 114, 32, 97, 110, 100, 32, 97, 112, 112, 108, 121, 32, 98, 101, 99, 111, 109, 101, 32, 98, 111, 111, 108, 32, 99, 101, 108, 108, 32, 100, 97, 116, 97, 32, 101, 108, 115, 101, 32, 102, 97, 105, 108, 32, 102, 97, 108, 115, 101, 32, 102, 110, 32, 102, 111, 114, 32, 102, 117, 110, 32, 103, 101, 116, 32, 105, 102, 32, 105, 109, 112, 108, 32, 105, 110, 32, 105, 110, 116, 32, 108, 101, 116, 32, 108, 105, 110, 107, 32, 109, 97, 116, 99, 104, 32, 109, 111, 100, 117, 108, 101, 32, 110, 111, 116, 32, 111, 114, 32, 112, 117, 116, 32, 114, 101, 99, 101, 105, 118, 101, 32, 115, 97, 121, 32, 115, 101, 108, 102, 32, 115, 101, 110, 100, 32, 115, 112, 97, 119, 110, 32, 116, 101, 120, 116, 32, 116, 104, 101, 110, 32, 116, 114, 97, 105, 116, 32, 116, 114, 117, 101, 32, 117, 110, 105, 116, 32, 117, 115, 101, 32, 119, 97, 116, 99, 104], .str [32]]
noncomputable def spC0 : List V := [.str [97, 99, 116, 111, 114], .str [97, 102, 116, 101, 114], .str [97, 110, 100], .str [97, 112, 112, 108, 121], .str [98, 101, 99, 111, 109, 101], .str [98, 111, 111, 108], .str [99, 101, 108, 108], .str [100, 97, 116, 97], .str [101, 108, 115, 101], .str [102, 97, 105, 108], .str [102, 97, 108, 115, 101], .str [102, 110], .str [102, 111, 114], .str [102, 117, 110], .str [103, 101, 116], .str [105, 102], .str [105, 109, 112, 108], .str [105, 110], .str [105, 110, 116], .str [108, 101, 116], .str [108, 105, 110, 107], .str [109, 97, 116, 99, 104], .str [109, 111, 100, 117, 108, 101], .str [110, 111, 116], .str [111, 114], .str [112, 117, 116], .str [114, 101, 99, 101, 105, 118, 101], .str [115, 97, 121], .str [115, 101, 108, 102], .str [115, 101, 110, 100], .str [115, 112, 97, 119, 110], .str [116, 101, 120, 116], .str [116, 104, 101, 110], .str [116, 114, 97, 105, 116], .str [116, 114, 117, 101], .str [117, 110, 105, 116], .str [117, 115, 101], .str [119, 97, 116, 99, 104]]
theorem sp0 : Known (cxA glob []) noOrc (fns glob []) 221 spA0 (.row spC0 38 1) := known_of_row (n := 300) (by kernel_rfl)
noncomputable def spA1 : List V := [.str [43, 32, 45, 32, 42, 32, 47, 32, 37, 32, 60, 32, 61, 32, 94, 32, 97, 110, 100, 32, 111, 114], .str [32]]
noncomputable def spC1 : List V := [.str [43], .str [45], .str [42], .str [47], .str [37], .str [60], .str [61], .str [94], .str [97, 110, 100], .str [111, 114]]
theorem sp1 : Known (cxA glob []) noOrc (fns glob []) 221 spA1 (.row spC1 10 1) := known_of_row (n := 300) (by kernel_rfl)
end Go.Sk.Seat

/-
  WHAT STANDS FOR SOME FUNCTIONS of the seat's program: regs.Clash, flat.Program, strings.Split.
-/
set_option maxRecDepth 100000
namespace Go.Sk.Seat
open Go.Proofs Go.Shelf

noncomputable def bodyOf (f : Func) : Code := f.body.getD .skip
noncomputable def cL : Code → Code
  | .seq a _ => a
  | c => c
noncomputable def cR : Code → Code
  | .seq _ b => b
  | c => c
section
variable (gl : Nat → Nat → Option V) (a : List (BinOp × IE × IE × Bool))
noncomputable def dcOf (c : Code) : DC := (compCode tt (cxA gl a) c).getD .skip
noncomputable def drOf (f : Func) : List DRes := (compRes tt f.results.toList).getD []
theorem dcOf_ok {c : Code} (h : (compCode tt (cxA gl a) c).isSome = true) : compCode tt (cxA gl a) c = some (dcOf gl a c) := by
  unfold dcOf
  cases hc : compCode tt (cxA gl a) c with
  | none => rw [hc] at h; cases h
  | some d => rfl

/-! regs.Clash -/
noncomputable def clB : Code := bodyOf Tryz.f111
noncomputable def cl0 : Code := cL clB
noncomputable def cl1 : Code := cL (cR clB)
noncomputable def cl3 : Code := cL (cR (cR clB))
noncomputable def cl4 : Code := cL (cL (cR (cR (cR clB))))
noncomputable def clE : Code := cR (cR (cR (cR clB)))
noncomputable def clLoop : Code := match cR (cL (cR (cR (cR clB)))) with
  | .block _ (.loop c) => c
  | c => c
noncomputable def clRound : Code := cR (cR clLoop)
def clO5 : Oper := ⟨some 15, .extract (.tmp 14) 0, 4, "regs.go:73", #[⟨0, .data⟩], none⟩
def clQ (i : Nat) : List Nat × Nat :=
  match i with
  | 0 => ([13], 0) | 1 => ([16], 1) | 2 => ([], 0) | 3 => ([4, 17], 7) | 4 => ([3], 0) | 5 => ([4], 0) | 6 => ([19], 2) | 7 => ([18, 20], 7) | 8 => ([21], 15)
  | 9 => ([3], 0) | 10 => ([22], 1) | 11 => ([3], 0) | _ => ([24], 1)
noncomputable def clashH : Hook := clashHook 1000 (dcOf gl a cl0) (dcOf gl a cl1) (dcOf gl a cl3) (dcOf gl a cl4)
theorem clash_body : Tryz.f111.body = some (.seq cl0 (.seq cl1 (.seq cl3 (.seq (.seq cl4 (.block 0 (.loop (loopBody 5 0 "regs.go:73" #[] clO5 clRound)))) clE)))) := by kernel_rfl
theorem clash_l5 : compOpers tt (cxA gl a) #[⟨some 14, .next (.tmp 13) false, 0, "regs.go:73", #[], none⟩, clO5] [] [⟨some 14, .next (.tmp 13) false, 0, "regs.go:73", #[], none⟩, clO5] =
    some [⟨0, some 14, none, .eff (oNext (.tmp 13)), [13], 0⟩, ⟨1, some 15, none, .pure (oExtract (.tmp 14) 0), [14], 1⟩] := by kernel_rfl
theorem clash_B : compCode tt (cxA gl a) clRound = some (dcB (cxA gl a) clQ) := by kernel_rfl
theorem clash_E : compCode tt (cxA gl a) clE = some (dcE 172 173 clQ) := by kernel_rfl
theorem clash_ok {G : Nat} {ρ : Nat → Int} {rec : Rec} (ih : RecOk Tryz.prog (cxA gl a) G ρ rec) {args : List V} {h : Heap} {v : V} {h' : Heap} (hv : clashH gl a rec args h = some (v, h')) : RecAt Tryz.prog (cxA gl a) G ρ 111 args h v h' :=
  clashHook_ok (ops_ok ttOk (methOk gl a) (extOk gl a)) mixed ttOk Tryz.sortPr Tryz.isAgg288 Tryz.sizeOf288 (enters_of Tryz.func173 (by kernel_rfl) rfl) (enters_of Tryz.func172 (by kernel_rfl) rfl) cmpLays
    Tryz.func111 clash_body (by kernel_rfl) (dcOf_ok gl a (by kernel_rfl)) (dcOf_ok gl a (by kernel_rfl)) (dcOf_ok gl a (by kernel_rfl)) (dcOf_ok gl a (by kernel_rfl)) (clash_l5 gl a) (clash_B gl a) (clash_E gl a)
    (by kernel_rfl) (by kernel_rfl) (by kernel_rfl) (by kernel_rfl) (by kernel_rfl) (of_decide_eq_true (by kernel_rfl)) (by kernel_rfl) ih hv

/-! flat.Program -/
noncomputable def flB : Code := bodyOf Tryz.f58
noncomputable def fl0 : Code := cL flB
noncomputable def flR : Code := cR (cR flB)
theorem flat_body : Tryz.f58.body = some (.seq fl0 (.seq (deferCode 1 93 20 4 1 0 0 "flat.go:55" "flat.go:55" #[] #[⟨0, .data⟩]) flR)) := by kernel_rfl
noncomputable def flatH : Hook := deferHook (cxA gl a) 1000 93 20 4 (dcOf gl a fl0) (dcOf gl a flR) (drOf Tryz.f58)
end
theorem flat_idle (x : Value) (w : World) : CallsD Tryz.prog 93 #[x] .returning w fun e u' w' => e = .returned (.tuple #[]) ∧ u' = .returning ∧ w' = w := by
  refine callsD_of_wpS Tryz.func93 rfl fun c₀ cs hu => ?_
  apply wpS_seq
  apply wpS_region
  simp [wpOpsS, go_sem, recoverD, hu, Tryz.ntmps93, Exit.thenS]
  refine wpS_cond (t := false) (by simp [Act.eval, Array.replicate]) ?_
  simp only [Bool.false_eq_true, if_false]
  refine wpS_of_wp (wp_skip ?_)
  cases c₀
  simp_all [bodyPostS, Go.results, Tryz.results93]
section
variable (gl : Nat → Nat → Option V) (a : List (BinOp × IE × IE × Bool))
theorem flat_ok {G : Nat} {ρ : Nat → Int} {rec : Rec} (ih : RecOk Tryz.prog (cxA gl a) G ρ rec) {args : List V} {h : Heap} {v : V} {h' : Heap} (hv : flatH gl a rec args h = some (v, h')) : RecAt Tryz.prog (cxA gl a) G ρ 58 args h v h' :=
  deferHook_ok (ops_ok ttOk (methOk gl a) (extOk gl a)) mixed ttOk Tryz.func58 flat_body (by kernel_rfl) (fun xs w => by simp [go_sem]) flat_idle (dcOf_ok gl a (by kernel_rfl)) (dcOf_ok gl a (by kernel_rfl)) (by kernel_rfl) (by kernel_rfl) (of_decide_eq_true (by kernel_rfl)) (by kernel_rfl) ih hv

/-! All of them. -/
noncomputable def spT : List (List V × Ans) := [(spA0, .row spC0 38 1), (spA1, .row spC1 10 1)]
noncomputable def orcOf (f : Nat) : Option Hook :=
  bif Nat.beq f 221 then some (tabHook spT) else bif Nat.beq f 111 then some (clashH gl a) else bif Nat.beq f 58 then some (flatH gl a) else none
end
theorem glob_bare (g o : Nat) (v : V) (h : glob g o = some v) : v.bare = true := by
  unfold glob at h
  cases hb : Nat.beq g 0 with
  | false => rw [hb] at h; cases h
  | true =>
    rw [hb, cond_true] at h
    split at h
    · simp at h; subst h; rfl
    · cases h
theorem orcOk (a : List (BinOp × IE × IE × Bool)) {ρ : Nat → Int} (G : Nat) : OrcOk Tryz.prog (cxA glob a) G ρ (orcOf glob a) := by
  intro f k hk rec ih args h v h' hv
  simp only [orcOf, nbeq, bif_ite] at hk
  split at hk
  · rename_i hf
    subst hf
    simp only [Option.some.injEq] at hk
    subst hk
    refine known_ok (cx := cxA glob a) (cx0 := cxA glob []) (T0 := tt) mixed ttOk (methOk glob []) (extOk glob []) rfl (fun e he => (nomatch he)) glob_bare (fun _ => noOrc_ok) (fnsOk glob []) (tab := spT) ?_ hv
    intro e he
    simp only [spT, List.mem_cons, List.not_mem_nil, or_false] at he
    rcases he with rfl | rfl
    · exact sp0
    · exact sp1
  · split at hk
    · rename_i hf
      subst hf
      simp only [Option.some.injEq] at hk
      subst hk
      exact clash_ok glob a ih hv
    · split at hk
      · rename_i hf
        subst hf
        simp only [Option.some.injEq] at hk
        subst hk
        exact flat_ok glob a ih hv
      · cases hk
end Go.Sk.Seat
