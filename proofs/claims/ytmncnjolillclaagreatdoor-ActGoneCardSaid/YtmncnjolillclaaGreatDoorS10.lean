/-
  SK, PART DF. A function that defers a closure which only recovers: it makes the closure, defers it, and goes on; nothing panics, and the closure does nothing.
-/
import Derived.Test.YtmncnjolillclaaGreatDoorS08
import Derived.Recover
import Derived.Tactics
namespace Go.Sk
variable {P : Program} {cx : Cx} {G : Nat} {ρ : Nat → Int} {T : TT}

/-- The closure was deferred while 'q' held what it captures. -/
noncomputable def deferHook (cx : Cx) (n : Nat) (g d q : Nat) (dc0 dcr : DC) (rs : List DRes) : Hook := fun rec args h =>
  match exec rec n dc0 (envOf args 0 .nil) h with
  | .ok .normal env1 h1 => (match env1.get q with
    | none => none
    | some v => finish cx ⟨0, dcr, rs⟩ (exec rec n dcr (env1.put d (some (.func (.func g) [] [v]))) h1))
  | _ => none

/-- The code that makes the closure and defers it. -/
def deferCode (id g d q t1 t2 t3 : Nat) (p1 p2 : String) (e1 e2 : Array Edge) : Code :=
  .region id #[⟨some d, .makeFunc (.func g) #[] #[.tmp q], t1, p1, e1, none⟩, ⟨none, .defer ⟨.value (.tmp d), #[], #[]⟩, t2, p2, e2, none⟩] false

theorem deferHook_ok (hO : OpsOk P cx G ρ T) (hm : P.follows .mixedOrders = true) (hT : TTok P T) {n : Nat} {f g d q id t1 t2 t3 : Nat} {p1 p2 : String} {e1 e2 : Array Edge} {fn : Func} {c0 cr : Code} {dc0 dcr : DC} {rs : List DRes}
    (h1 : P.funcs[f]? = some fn) (h2 : fn.body = some (.seq c0 (.seq (deferCode id g d q t1 t2 t3 p1 p2 e1 e2) cr))) (h3 : (fn.name == "runtime.NumGoroutine") = false)
    (hg : ∀ xs w, (invoke (.fn (.func g) xs) #[]).run P w = .ok (.enter g xs) w)
    (hidle : ∀ x w, CallsD P g #[x] .returning w fun e u' w' => e = .returned (.tuple #[]) ∧ u' = .returning ∧ w' = w)
    (hc0 : compCode T cx c0 = some dc0) (hcr : compCode T cx cr = some dcr) (hN0 : dstsOk fn.ntmps dc0 = true) (hNr : dstsOk fn.ntmps dcr = true) (hd : d < fn.ntmps) (hr : compRes T fn.results.toList = some rs)
    {rec : Rec} (ih : RecOk P cx G ρ rec) {args : List V} {h : Heap} {v : V} {h' : Heap} (hv : deferHook cx n g d q dc0 dcr rs rec args h = some (v, h')) : RecAt P cx G ρ f args h v h' := by
  unfold deferHook at hv
  split at hv
  case h_2 => cases hv
  rename_i env1 hp1 hx0
  split at hv
  · cases hv
  rename_i vq hq
  unfold finish at hv
  split at hv
  · cases hv
  · cases hv
  rename_i x env2 hp2 hne hx1
  split at hv
  case h_2 => cases hv
  rename_i vs hvs
  simp only [Option.some.injEq, Prod.mk.injEq] at hv
  obtain ⟨rfl, rfl⟩ := hv
  have hrise0 := exec_rise hO ih c0 hc0 hN0 n hx0
  have hrise1 := exec_rise hO ih cr hcr hNr n hx1
  have hxx : x = .normal ∨ x = .ret := by
    cases x with
    | normal => exact .inl rfl
    | ret => exact .inr rfl
    | exit id => exact absurd rfl (hne id)
  refine ⟨Nat.le_trans hrise0 hrise1, fun xs w => ?_, fun Φ w xs R hA hF => ?_⟩
  · have h3' : fn.name ≠ "runtime.NumGoroutine" := by simpa using h3
    simp [callFunc, h1, h2, h3']
  · refine calls_of_wp_defers h1 h2 (wp_seq (exec_ok (D := []) hO hm ih c0 hc0 hN0 n hx0 (Φ := Φ) (w := w) ⟨R, ?_, ?_, rfl⟩ ?_ ?_))
    · intro t u hu
      rw [envOf_get] at hu
      split at hu
      · rename_i hlt
        obtain ⟨y, k1, k2⟩ := hA.get hu
        refine ⟨y, ?_, k2⟩
        simp only [Nat.sub_zero] at k1
        rw [Array.getElem?_append_left (by have := hA.length; simp at hlt this; omega)]
        simpa using k1
      · rw [Tr.get_nil] at hu; cases hu
    · simp; omega
    · exact fun f e q1 q2 => hF f e q1 (Nat.lt_of_lt_of_le q2 hrise1)
    · intro Φ1 a1 w1 hA1 hX1
      obtain ⟨R1, hE1, hS1, hD1⟩ := hA1
      obtain ⟨xq, k1, k2⟩ := hE1 q vq hq
      simp only [exOf, Exit.then]
      refine wp_seq ?_
      unfold deferCode
      refine wp_region ?_
      have hev : a1.eval (.tmp q) = xq := by simp [Act.eval, k1]
      have hrun : ∀ w, (Instr.makeFunc (.func g) #[] #[xq]).run P w = .ok (.func (.func g) #[] #[xq]) w := fun _ => rfl
      have hdd : d < a1.tmps.size := Nat.lt_of_lt_of_le hd hS1
      have hset : (a1.tmps.setIfInBounds d (Value.func (.func g) #[] #[xq]))[d]? = some (Value.func (.func g) #[] #[xq]) := by simp [hdd]
      simp only [List.range, List.range.loop, List.size_toArray, List.length_cons, List.length_nil]
      simp [wpOps, go_sem, hrun, hD1, Act.eval, k1, hdd, Act.put, Exit.then]
      refine .inl (.inl ?_)
      refine exec_ok (D := [{ target := .fn (.func g) #[xq], args := #[] }]) hO hm ih cr hcr hNr n hx1 (Φ := Φ1) ?_ ?_ ?_
      refine ⟨R1, ?_, ?_, rfl⟩
      · intro t u hu
        rw [Tr.get_put] at hu
        by_cases ht : t = d
        · subst ht
          rw [if_pos rfl] at hu
          simp only [Option.some.injEq] at hu
          subst hu
          exact ⟨_, hset, .func .nil (.cons k2 .nil)⟩
        · rw [if_neg ht] at hu
          obtain ⟨y, j1, j2⟩ := hE1 t u hu
          exact ⟨y, by simp only; rw [Array.getElem?_setIfInBounds_ne (Ne.symm ht)]; exact j1, j2⟩
      · simp only [Array.size_setIfInBounds]; exact hS1
      · intro f e q1 q2
        rw [hX1.far f q1]
        exact hF f e (Nat.le_trans hrise0 q1) q2
      · intro Φ2 a2 w2 hA2 hX2
        obtain ⟨R2, hE2, hS2, hD2⟩ := hA2
        obtain ⟨ys, k3, k4⟩ := results_ok hT R2 hE2 hr hvs
        have hres : (Go.results fn a2.tmps).run P w2 = .ok (if h : ys.toArray.size = 1 then ys.toArray[0] else .tuple ys.toArray) w2 := by
          rw [results_eq, Array.mapM_eq_mapM_toList]
          simp [k3]
        have hone : VR ρ Φ2 (oneOrTuple vs) (if h : ys.toArray.size = 1 then ys.toArray[0] else .tuple ys.toArray) := by
          have hl := k4.length
          cases k4 with
          | nil => simp [oneOrTuple]; exact .tuple (xs := #[]) .nil
          | @cons v1 y1 vs' ys' g1 g2 =>
            cases g2 with
            | nil => simpa [oneOrTuple] using g1
            | @cons v2 y2 vs2 ys2 g3 g4 => simp [oneOrTuple]; exact .tuple (xs := (y1 :: y2 :: ys2).toArray) (.cons g1 (.cons g3 g4))
        have fin : bodyPostD P fn (fun e w' => ∃ x, e = .returned x ∧ ∃ Φ', VR ρ Φ' (oneOrTuple vs) x ∧ Rel cx G ρ Φ' hp2 w' ∧ Ext Φ h w Φ' hp2 w') .normal a2 w2 := by
          simp only [bodyPostD, hD2]
          refine leaves_cons (f := g) (args := #[xq]) (by simp) (hg _ _) ?_
          refine (hidle xq w2).mono ?_
          rintro e u' w' ⟨rfl, rfl, rfl⟩
          exact ⟨_, hres, _, rfl, Φ2, hone, R2, hX1.trans (fun f e q1 q2 => hF f e q1 (Nat.lt_of_lt_of_le q2 hrise1)) hX2⟩
        rcases hxx with rfl | rfl
        · exact fin
        · exact fin
end Go.Sk
