/-
  pick, AND WHAT IS KNOWN OF awake.
-/
import Derived.Test.YtmncnjolillclaaGreatDoorS15
set_option maxRecDepth 100000
namespace Go.Sk.Seat
open Go.Proofs

def pickV (a n : Int) : Int := IntKind.i64.wrap ((IntKind.u64.wrap a).tmod (IntKind.u64.wrap n))
theorem wrap64_eq (x : Int) : RowKit.wrap64 x = IntKind.i64.wrap x := by
  simp [RowKit.wrap64, IntKind.wrap, IntKind.bits, IntKind.signed]
  split <;> omega
theorem pick_calls (a n : Int) (hn : IntKind.u64.wrap n ≠ 0) (W : World) : Calls Tryz.prog 8 #[.int .i64 a, .int .i64 n] W fun e w' => e = .returned (.int .i64 (pickV a n)) ∧ w' = W := by
  unfold pickV
  go_enter Tryz.func8, Tryz.ntmps8
  go_wp2
  go_ret
  exact ⟨by rw [wrap64_eq]; rfl, rfl⟩

/-- pick, at one argument that is asked of. -/
noncomputable def pickHook (x : IE) (n r : Int) : Hook := fun _ args h =>
  match args with
  | [.int .i64 e, .int .i64 (.lit m)] => if e = x ∧ m = n then some (.int .i64 (.lit r), h) else none
  | _ => none
theorem pick_ok {cx : Cx} {G : Nat} {ρ : Nat → Int} {x : IE} {n r : Int} (hn : IntKind.u64.wrap n ≠ 0) (hr : pickV (x.ev ρ) n = r) {rec : Rec} {args : List V} {h : Heap} {v : V} {h' : Heap} (hv : pickHook x n r rec args h = some (v, h')) :
    RecAt Tryz.prog cx G ρ 8 args h v h' := by
  unfold pickHook at hv
  split at hv
  · rename_i e m
    split at hv
    · rename_i hc
      obtain ⟨rfl, rfl⟩ := hc
      simp only [Option.some.injEq, Prod.mk.injEq] at hv
      obtain ⟨rfl, rfl⟩ := hv
      refine ⟨Nat.le_refl _, enters_of Tryz.func8 (by kernel_rfl) rfl, fun Φ w xs R hA hF => ?_⟩
      obtain ⟨xl⟩ := xs
      simp only at hA
      cases hA with
      | @cons _ x1 _ _ hx1 hA =>
      cases hA with
      | @cons _ x2 _ _ hx2 hA =>
      cases hA
      cases hx1; cases hx2
      refine (pick_calls _ _ hn w).mono ?_
      rintro e' w' ⟨rfl, rfl⟩
      refine ⟨_, Φ, rfl, ?_, R, Ext.refl _ _ _⟩
      have : pickV (e.ev ρ) m = (IE.lit r).ev ρ := hr
      show VR ρ Φ (.int .i64 (.lit r)) (.int .i64 (pickV (e.ev ρ) m))
      rw [this]
      exact .int .i64 (.lit r)
    · cases hv
  · cases hv

/-- What stands for functions in a law's run. -/
noncomputable def orcL (a : List (BinOp × IE × IE × Bool)) (x : IE) (n r : Int) (f : Nat) : Option Hook :=
  bif Nat.beq f 7 then some (tabHook [([], .val (.bool true))]) else bif Nat.beq f 8 then some (pickHook x n r) else orcOf glob a f
theorem orcL_ok (a : List (BinOp × IE × IE × Bool)) {ρ : Nat → Int} {x : IE} {n r : Int} (hn : IntKind.u64.wrap n ≠ 0) (hr : pickV (x.ev ρ) n = r) (G : Nat) : OrcOk Tryz.prog (cxA glob a) G ρ (orcL a x n r) := by
  intro f k hk rec ih args h v h' hv
  simp only [orcL, nbeq, bif_ite] at hk
  split at hk
  · rename_i hf
    subst hf
    simp only [Option.some.injEq] at hk
    subst hk
    refine known_ok (cx := cxA glob a) (cx0 := cxA glob []) (T0 := tt) mixed ttOk (methOk glob []) (extOk glob []) rfl (fun e he => (nomatch he)) glob_bare (fun G => orcOk [] G) (fnsOk glob []) (tab := [([], .val (.bool true))]) ?_ hv
    intro e he
    simp only [List.mem_cons, List.not_mem_nil, or_false] at he
    subst he
    exact known_of_val awakeRun
  · split at hk
    · rename_i hf
      subst hf
      simp only [Option.some.injEq] at hk
      subst hk
      exact pick_ok hn hr hv
    · exact orcOk a G f k hk rec ih args h v h' hv

/-- A law's run that says true. -/
theorem law_true {a : List (BinOp × IE × IE × Bool)} {x : IE} {n r : Int} {N f : Nat} {args : List V} {xs : Array Value} {ρ : Nat → Int} {W : World} (hrun : valIs (callN (cxA glob a) (orcL a x n r) (fns glob a) N f args heap0) (.bool true) = true)
    (hn : IntKind.u64.wrap n ≠ 0) (hr : pickV (x.ev ρ) n = r) (ha : ∀ o u v r, (o, u, v, r) ∈ a → cmpInt o (u.ev ρ) (v.ev ρ) = r) (hx : VRs ρ none0 args xs.toList)
    (hglob : ∀ g o v, glob g o = some v → ∃ x, W.cell? ⟨g, o, none⟩ = some x ∧ VR ρ none0 v x) :
    Calls Tryz.prog f xs W fun e W' => e = .returned (.bool true) ∧ Grew W W' := by
  obtain ⟨⟨m, h', h⟩, _⟩ := known_of_val hrun
  exact sim_bool mixed ttOk (methOk glob a) (extOk glob a) (fun G => orcL_ok a hn hr G) (fnsOk glob a) hglob ha h hx
end Go.Sk.Seat
