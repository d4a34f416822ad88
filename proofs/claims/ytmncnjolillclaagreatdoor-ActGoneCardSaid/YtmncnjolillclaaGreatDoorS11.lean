/-
  SK, PART CA. Stepping over a map in whatever order.
-/
import Derived.Test.YtmncnjolillclaaGreatDoorS08
import Derived.Maps.RangeRun
namespace Go.Sk
open Go.ChangeMaps (setBlock)
variable {P : Program} {cx : Cx} {G : Nat} {ρ : Nat → Int} {T : TT} {Φ : Emb} {H : Heap} {w : World}

theorem EntR.mem {es : List (V × V × Nat)} {rs : List MapEntry} (h : EntR ρ Φ es rs) : ∀ {r : MapEntry}, r ∈ rs → ∃ e ∈ es, VR ρ Φ e.1 r.key ∧ VR ρ Φ e.2.1 r.val ∧ r.born = e.2.2 := by
  induction h with
  | nil => intro r h; cases h
  | @cons k v b x y es rs hk hv _ ih =>
    intro r hr
    cases hr with
    | head => exact ⟨(k, v, b), List.mem_cons_self .., hk, hv, rfl⟩
    | tail _ hr =>
      obtain ⟨e, h1, h2⟩ := ih hr
      exact ⟨e, List.mem_cons_of_mem _ h1, h2⟩
theorem EntR.mem' {es : List (V × V × Nat)} {rs : List MapEntry} (h : EntR ρ Φ es rs) : ∀ {e : V × V × Nat}, e ∈ es → ∃ r ∈ rs, r.born = e.2.2 := by
  induction h with
  | nil => intro r h; cases h
  | @cons k v b x y es rs hk hv _ ih =>
    intro e he
    cases he with
    | head => exact ⟨_, List.mem_cons_self .., rfl⟩
    | tail _ he =>
      obtain ⟨r, h1, h2⟩ := ih he
      exact ⟨r, List.mem_cons_of_mem _ h1, h2⟩

theorem next_any {r0 m since clock : Nat} {seen : List Nat} {es : List (V × V × Nat)} {ty : TypeId} (R : Rel cx G ρ Φ H w) (hi : H.objs.get r0 = some (.miter (some m) since seen clock)) (hm : H.objs.get m = some (.map es clock))
    (hlt : ∀ e ∈ es, e.2.2 < since) (hsc : since ≤ clock) {X : Value} (hX : VR ρ Φ (.iter r0) X) :
    ((∀ e ∈ es, e.2.2 ∈ seen) ∧ (Instr.next X false ty).run P w = .ok (.tuple #[.bool false]) w) ∨
    ∃ e ∈ es, e.2.2 ∉ seen ∧ ∃ y w', (Instr.next X false ty).run P w = .ok y w' ∧ VR ρ Φ (.tuple [.bool true, e.1, e.2.1]) y ∧
      Rel cx G ρ Φ (H.setObj r0 (.miter (some m) since (seen ++ [e.2.2]) clock)) w' ∧ Ext Φ H w Φ (H.setObj r0 (.miter (some m) since (seen ++ [e.2.2]) clock)) w' := by
  cases hX with
  | @iter _ l hl =>
    obtain ⟨h0, l1, lm, g1, g2, g3, g4⟩ := R.obj _ _ hi
    rw [hl] at g1
    obtain rfl : l = l1 := by simpa using g1
    obtain ⟨_, l2, res, j1, j2, j3, j4⟩ := R.obj _ _ hm
    rw [g3] at j1
    obtain rfl : lm = l2 := by simpa using j1
    have hold : ∀ x ∈ res.toList, x.born < since := by
      intro x hx
      obtain ⟨e, he, _, _, hb⟩ := j4.mem hx
      rw [hb]; exact hlt e he
    rcases run_next_at (P := P) w ty l.blk lm.blk since clock seen.toArray res clock g4 j3 hold hsc with ⟨hs, hrun⟩ | ⟨r, hr, w1, hw1, hrun⟩
    · refine .inl ⟨fun e he => ?_, hrun⟩
      obtain ⟨r, hr, hb⟩ := j4.mem' he
      apply Classical.byContradiction
      intro hn
      have hmem : r ∈ (leftOf res seen.toArray).toList := by
        unfold leftOf
        simp only [Array.toList_filter, List.mem_filter]
        refine ⟨hr, ?_⟩
        rw [hb]
        simp [hn]
      have : (leftOf res seen.toArray).toList.length = 0 := by simpa using hs
      rw [List.length_eq_zero_iff.1 this] at hmem
      cases hmem
    · unfold leftOf at hr
      simp only [Array.toList_filter, List.mem_filter] at hr
      obtain ⟨hr1, hr2⟩ := hr
      obtain ⟨e, he, hk, hv, hb⟩ := j4.mem hr1
      refine .inr ⟨e, he, ?_, _, _, hrun, .tuple (xs := #[.bool true, r.key, r.val]) (.cons (.bool true) (.cons hk (.cons hv .nil))), ?_⟩
      · rw [← hb]; simpa using hr2
      · have hsame : Same w w1 ∧ w1.heap = w.heap := by
          rcases hw1 with rfl | rfl
          · exact ⟨.refl _, rfl⟩
          · exact ⟨⟨⟨rfl, rfl, rfl, Nat.le_succ _⟩, Nat.le_refl _, fun _ _ => rfl⟩, rfl⟩
        obtain ⟨hs1, hh⟩ := hsame
        obtain ⟨R1, X1⟩ := R.grown hs1 (by rw [hh]; exact Nat.le_refl _) (fun b _ => by rw [hh])
        have hltb := (Array.getElem?_eq_some_iff.1 g4).1
        obtain ⟨q1, q2⟩ := R1.reset (o' := .miter (some m) since (seen ++ [e.2.2]) clock) (ro := .mapIter (some lm.blk) since (seen.toArray.push r.born) clock) hi hl
          ⟨h0, l, lm, hl, g2, g3, by simp [hb, hh, hltb]⟩
        exact ⟨q1, X1.trans (fun f e h1 h2 => by omega) q2⟩
end Go.Sk

/-
  SK, PART CB. One round of a loop that collects the keys of a map (pairs of integers) into a row, in the abstract machine, for whichever entry came next.
-/
namespace Go.Sk
variable {cx : Cx}

/-- A pair of literals. -/
def isPair (v : V) : Prop := ∃ x y : Nat, v = .agg [.int .i64 (.lit (.ofNat x)), .int .i64 (.lit (.ofNat y))]
def kc : V → List V
  | .agg l => l
  | _ => []
def z2 : List V := [.int .i64 (.lit 0), .int .i64 (.lit 0)]
def outV (fo : Nat) : Nat → V
  | 0 => .slice none 0 0
  | j + 1 => .slice (some ⟨fo, j, 0⟩) (j + 1) 2
def nxOf (n1 : Nat) : Nat → Nat
  | 0 => n1
  | j + 1 => n1 + 3 + 2 * j
def rowOf (pk : List (V × V × Nat)) : List V := (pk.map fun e => kc e.1).flatten

/-- The round's code, behind the step. -/
noncomputable def dcB (cx : Cx) (q : Nat → List Nat × Nat) : DC :=
  .block 1 (.seq (.region [
    ⟨0, some 16, none, .eff (oEntry (.tmp 13)), (q 0).1, (q 0).2⟩,
    ⟨1, some 17, none, .pure (oExtract (.tmp 16) 0), (q 1).1, (q 1).2⟩,
    ⟨2, some 4, none, .alloc (oAlloc z2), (q 2).1, (q 2).2⟩,
    ⟨3, none, none, .eff (oStore 2 (.tmp 4) (.tmp 17)), (q 3).1, (q 3).2⟩])
   (.region [
    ⟨0, some 18, none, .pure (oMove (.tmp 3)), (q 4).1, (q 4).2⟩,
    ⟨1, some 19, none, .read (oLoad cx true 2 (.tmp 4)), (q 5).1, (q 5).2⟩,
    ⟨2, some 20, none, .alloc (oBuildSlice 2 1 z2 [(0, 2, .tmp 19)]), (q 6).1, (q 6).2⟩,
    ⟨3, some 21, none, .eff (oAppend 2 16 (.tmp 18) (.tmp 20)), (q 7).1, (q 7).2⟩,
    ⟨4, some 3, none, .pure (oMove (.tmp 21)), (q 8).1, (q 8).2⟩]))

/-- What holds ahead of each round: 'pk' was picked. -/
structure LS (n1 r0 m clock : Nat) (es : List (V × V × Nat)) (base : Tr Obj) (pk : List (V × V × Nat)) (env : Env) (H : Heap) : Prop where
  it : env.get 13 = some (.iter r0)
  out : env.get 3 = some (outV (n1 + 2) pk.length)
  iter : H.objs.get r0 = some (.miter (some m) clock (pk.map (·.2.2)) clock)
  map : H.objs.get m = some (.map es clock)
  next : H.next = nxOf n1 pk.length
  row : pk ≠ [] → ∃ M, H.objs.get (n1 + 2) = some (.cells M) ∧ M.ep + 1 = pk.length ∧ M.size = 2 * pk.length ∧ ∀ p v, (rowOf pk)[p]? = some v → ∃ lo, M.cells.get p = some (v, lo) ∧ lo ≤ M.ep
  base : ∀ f, f < n1 → f ≠ r0 → H.objs.get f = base.get f

theorem rowOf_length : ∀ {pk : List (V × V × Nat)}, (∀ e ∈ pk, isPair e.1) → (rowOf pk).length = 2 * pk.length
  | [], _ => rfl
  | e :: l, h => by
    obtain ⟨x, y, he⟩ := h e (List.mem_cons_self ..)
    have := rowOf_length (pk := l) fun e he => h e (List.mem_cons_of_mem _ he)
    simp only [rowOf, List.map_cons, List.flatten_cons, List.length_append, List.length_cons] at this ⊢
    rw [this, he]; simp [kc]; omega
theorem rowOf_snoc (pk : List (V × V × Nat)) (e : V × V × Nat) : rowOf (pk ++ [e]) = rowOf pk ++ kc e.1 := by simp [rowOf]

theorem find_born : ∀ {es : List (V × V × Nat)} {e : V × V × Nat}, (es.map (·.2.2)).Nodup → e ∈ es → es.find? (fun x => Nat.beq x.2.2 e.2.2) = some e
  | a :: l, e, hn, he => by
    simp only [List.map_cons, List.nodup_cons] at hn
    rw [List.find?_cons]
    cases he with
    | head => rw [nbeq]; simp
    | tail _ he =>
      have hne : a.2.2 ≠ e.2.2 := fun h => hn.1 (by rw [h]; exact List.mem_map_of_mem he)
      rw [nbeq]; simp [hne, find_born hn.2 he]

theorem cellsAt_two {H : Heap} {f : Nat} {m : Fam} {a b : V} (hf : H.objs.get f = some (.cells m)) (hs : 2 ≤ m.size) (ha : m.cells.get 0 = some (a, 0)) (hb : m.cells.get 1 = some (b, 0)) : H.cellsAt ⟨f, 0, 0⟩ 2 = some [a, b] := by
  have h0 : Nat.blt 0 m.size = true := by rw [nblt]; simp; omega
  have h1 : Nat.blt 1 m.size = true := by rw [nblt]; simp; omega
  have hle : Nat.ble 0 m.ep = true := by rw [nble]; simp
  have hz : Nat.ble 0 0 = true := rfl
  simp [Heap.cellsAt, Heap.fam, hf, hle, Fam.cellsAt, Fam.cell, h0, h1, ha, hb, hz]

theorem round_sk {n1 r0 m clock : Nat} {es : List (V × V × Nat)} {base : Tr Obj} {pk : List (V × V × Nat)} {env : Env} {H : Heap} {rec : Rec} {n : Nat} {q : Nat → List Nat × Nat} {tv : V}
    (h : LS n1 r0 m clock es base pk env H) (hp : ∀ e ∈ es, isPair e.1) (hnd : (es.map (·.2.2)).Nodup) (hsub : ∀ e ∈ pk, e ∈ es) (hr0 : r0 < n1) (hm : m < n1) (hlen : pk.length < 1000000) {e : V × V × Nat} (he : e ∈ es) :
    ∃ env' H', exec rec n (dcB cx q) ((env.put 14 (some tv)).put 15 (some (.bool true))) (H.setObj r0 (.miter (some m) clock (pk.map (·.2.2) ++ [e.2.2]) clock)) = .ok .normal env' H' ∧ LS n1 r0 m clock es base (pk ++ [e]) env' H' := by
  obtain ⟨x, y, hk⟩ := hp e he
  generalize ha : V.int .i64 (.lit (.ofNat x)) = a at hk
  generalize hb : V.int .i64 (.lit (.ofNat y)) = b at hk
  have hflat : a.flat = true ∧ b.flat = true := by rw [← ha, ← hb]; exact ⟨rfl, rfl⟩
  have hmr : m ≠ r0 := by
    intro hh
    have h1 := h.iter
    rw [← hh, h.map] at h1; cases h1
  have hnx : n1 ≤ H.next := by rw [h.next]; cases pk.length <;> simp [nxOf]; omega
  generalize hE0 : (env.put 14 (some tv)).put 15 (some (.bool true)) = E0
  generalize hH1 : H.setObj r0 (.miter (some m) clock (pk.map (·.2.2) ++ [e.2.2]) clock) = H1
  have hH1n : H1.next = H.next := by rw [← hH1]; rfl
  have hH1g : ∀ f, H1.objs.get f = if f = r0 then some (.miter (some m) clock (pk.map (·.2.2) ++ [e.2.2]) clock) else H.objs.get f := by
    intro f; rw [← hH1]; simp only [Heap.setObj, Tr.get_put]
  have g13 : E0.get 13 = some (.iter r0) := by rw [← hE0]; simp [Tr.get_put, h.it]
  have g3 : E0.get 3 = some (outV (n1 + 2) pk.length) := by rw [← hE0]; simp [Tr.get_put, h.out]
  -- the entry
  have s0 : oEntry (.tmp 13) E0 H1 = some (.tuple [e.1, e.2.1], H1) := by
    simp only [oEntry, eval, g13, entryV, hH1g, if_true, if_neg hmr, h.map]
    simp [nbeq, List.getLast?_append]
    have := find_born hnd he
    simp only [nbeq] at this
    rw [this]
  generalize hE1 : E0.put 16 (some (.tuple [e.1, e.2.1])) = E1
  have s1 : oExtract (.tmp 16) 0 E1 = some e.1 := by
    rw [← hE1]; simp [oExtract, eval, Tr.get_put]
  generalize hE2 : E1.put 17 (some e.1) = E2
  generalize hE3 : E2.put 4 (some (.ptr (some ⟨H.next, 0, 0⟩))) = E3
  generalize hH2 : H1.new (.cells (famOf z2)) = H2
  have hH2n : H2.next = H.next + 1 := by rw [← hH2]; simp [Heap.new, hH1n]
  have hH2g : ∀ f, H2.objs.get f = if f = H.next then some (.cells (famOf z2)) else H1.objs.get f := by
    intro f; rw [← hH2]; simp only [Heap.new, Tr.get_put, hH1n]
  generalize hH3 : H2.setObj H.next (.cells ((famOf z2).puts 0 [a, b])) = H3
  have hH3n : H3.next = H.next + 1 := by rw [← hH3]; exact hH2n
  have hH3g : ∀ f, H3.objs.get f = if f = H.next then some (.cells ((famOf z2).puts 0 [a, b])) else H1.objs.get f := by
    intro f; rw [← hH3]; simp only [Heap.setObj, Tr.get_put, hH2g]
    by_cases hf : f = H.next <;> simp [hf]
  have s3 : oStore 2 (.tmp 4) (.tmp 17) E3 H2 = some (.tuple [], H3) := by
    have k1 : E3.get 4 = some (.ptr (some ⟨H.next, 0, 0⟩)) := by rw [← hE3]; simp [Tr.get_put]
    have k2 : E3.get 17 = some e.1 := by rw [← hE3, ← hE2]; simp [Tr.get_put]
    have k3 : allFlat [a, b] = true := by simp [allFlat, hflat.1, hflat.2]
    have k4 : H2.fam H.next = some (famOf z2) := by simp [Heap.fam, hH2g]
    simp [oStore, eval, k1, k2, hk, V.cells, k3, Heap.write, k4, famOf_ep, famOf_size, nbeq, nble, nblt, done, z2]
    rw [← hH3]; rfl
  generalize hE4 : E3.put 18 (some (outV (n1 + 2) pk.length)) = E4
  have s4 : oMove (.tmp 3) E3 = some (outV (n1 + 2) pk.length) := by
    rw [← hE3, ← hE2, ← hE1]; simp [oMove, eval, Tr.get_put, g3]
  generalize hE5 : E4.put 19 (some (.agg [a, b])) = E5
  have hc3 : H3.cellsAt ⟨H.next, 0, 0⟩ 2 = some [a, b] := by
    refine cellsAt_two (m := (famOf z2).puts 0 [a, b]) (by rw [hH3g]; simp) (by rw [Fam.puts_size, famOf_size]; exact Nat.le_refl _) ?_ ?_
    · rw [Fam.puts_get]; simp [famOf_ep]
    · rw [Fam.puts_get]; simp [famOf_ep]
  have s5 : oLoad cx true 2 (.tmp 4) E4 H3 = some (.agg [a, b]) := by
    have k1 : E4.get 4 = some (.ptr (some ⟨H.next, 0, 0⟩)) := by rw [← hE4, ← hE3]; simp [Tr.get_put]
    simp [oLoad, eval, k1, loadV, hc3]
  generalize hE6 : E5.put 20 (some (.slice (some ⟨H.next + 1, 0, 0⟩) 1 2)) = E6
  generalize hH4 : H3.new (.cells (famOf [a, b])) = H4
  have hH4n : H4.next = H.next + 2 := by rw [← hH4]; simp [Heap.new, hH3n]
  have hH4g : ∀ f, H4.objs.get f = if f = H.next + 1 then some (.cells (famOf [a, b])) else H3.objs.get f := by
    intro f; rw [← hH4]; simp only [Heap.new, Tr.get_put, hH3n]
  have s6 : oBuildSlice 2 1 z2 [(0, 2, .tmp 19)] E5 (H.next + 1) = some (.slice (some ⟨H.next + 1, 0, 0⟩) 1 2, .cells (famOf [a, b])) := by
    have k1 : E5.get 19 = some (.agg [a, b]) := by rw [← hE5]; simp [Tr.get_put]
    have k3 : allFlat [a, b] = true := by simp [allFlat, hflat.1, hflat.2]
    simp [oBuildSlice, fillParts, eval, k1, V.cells, z2, nbeq, nble, k3, listSet]
  have hsrc : srcCells H4 2 (.slice (some ⟨H.next + 1, 0, 0⟩) 1 2) = some (1, [a, b]) := by
    have : H4.cellsAt ⟨H.next + 1, 0, 0⟩ 2 = some [a, b] := by
      refine cellsAt_two (m := famOf [a, b]) (by rw [hH4g]; simp) (by rw [famOf_size]; exact Nat.le_refl _) ?_ ?_ <;> rw [famOf_get] <;> simp
    simp [srcCells, nbeq, this]
  have hrl := rowOf_length (pk := pk) fun e he => hp e (hsub e he)
  have hkc : kc e.1 = [a, b] := by rw [hk]; rfl
  have hfoN : H1.objs.get (n1 + 2) = H.objs.get (n1 + 2) := by rw [hH1g, if_neg (by omega)]
  have happ : ∃ H5, appendV H4 2 16 1 [a, b] (outV (n1 + 2) pk.length) = some (outV (n1 + 2) (pk.length + 1), H5) ∧ H5.next = nxOf n1 (pk.length + 1) ∧
      (∀ f, f ≠ n1 + 2 → H5.objs.get f = H4.objs.get f) ∧ ∃ M, H5.objs.get (n1 + 2) = some (.cells M) ∧ M.ep = pk.length ∧ M.size = 2 * (pk.length + 1) ∧ ∀ p v, (rowOf (pk ++ [e]))[p]? = some v → ∃ lo, M.cells.get p = some (v, lo) ∧ lo ≤ M.ep := by
    cases pk with
    | nil =>
      have hn0 : H.next = n1 := by rw [h.next]; rfl
      refine ⟨H4.new (.cells (famOf [a, b])), ?_, ?_, ?_, famOf [a, b], ?_, ?_, ?_, ?_⟩
      · simp [outV, appendV, nbeq, nble, hH4n, hn0]
      · simp [Heap.new, hH4n, hn0, nxOf]
      · intro f hf
        simp only [Heap.new, Tr.get_put, hH4n, hn0, if_neg hf]
      · simp only [Heap.new, Tr.get_put, hH4n, hn0, if_true]
      · rw [famOf_ep]; rfl
      · rw [famOf_size]; rfl
      · intro p v hv
        refine ⟨0, ?_, Nat.zero_le _⟩
        rw [famOf_get]
        simp only [rowOf, List.nil_append, List.map_cons, List.map_nil, List.flatten_cons, List.flatten_nil, List.append_nil, hkc] at hv
        rw [hv]; rfl
    | cons c l =>
      obtain ⟨M, m1, m2, m3, m4⟩ := h.row (by simp)
      simp only [List.length_cons] at *
      have hnx1 : H.next = n1 + 3 + 2 * l.length := by rw [h.next]; rfl
      have m1' : H4.objs.get (n1 + 2) = some (.cells M) := by
        rw [hH4g, if_neg (by omega), hH3g, if_neg (by omega), hfoN, m1]
      have hep : M.ep = l.length := by omega
      have hg : growV H4 2 ⟨n1 + 2, l.length, 0⟩ (l.length + 1) 1 [a, b] = some (.slice (some ⟨n1 + 2, l.length + 1, 0⟩) (l.length + 1 + 1) 2,
          H4.setObj (n1 + 2) (.cells (Fam.puts { ep := M.ep + 1, size := 0 + (l.length + 1 + 1) * 2, cells := M.cells } (0 + (l.length + 1) * 2) [a, b]))) := by
        have k1 : H4.fam (n1 + 2) = some M := by simp [Heap.fam, m1']
        simp only [growV, k1]
        have k2 : (Nat.beq l.length M.ep && Nat.ble (0 + (l.length + 1) * 2) M.size) = true := by
          rw [nbeq, nble]; simp; omega
        rw [k2]
        simp only [cond_true, hep]
      generalize hM5 : (Fam.puts { ep := M.ep + 1, size := 0 + (l.length + 1 + 1) * 2, cells := M.cells } (0 + (l.length + 1) * 2) [a, b]) = M5 at hg
      have q1 : M5.ep = l.length + 1 := by rw [← hM5, Fam.puts_ep]; simp [hep]
      have q2 : M5.size = (l.length + 1 + 1) * 2 := by rw [← hM5, Fam.puts_size]; simp
      have q3 : ∀ p, M5.cells.get p = if 0 + (l.length + 1) * 2 ≤ p ∧ p < 0 + (l.length + 1) * 2 + 2 then ([a, b][p - (0 + (l.length + 1) * 2)]?).map (·, M.ep + 1) else M.cells.get p := by
        intro p; rw [← hM5, Fam.puts_get]; rfl
      refine ⟨H4.setObj (n1 + 2) (.cells M5), ?_, ?_, ?_, M5, ?_, q1, ?_, ?_⟩
      rotate_left
      rotate_left
      rotate_left
      · simp only [Heap.setObj, Tr.get_put, if_true]
      · rw [q2]; omega
      · intro p v hv
        rw [q3, q1]
        rw [rowOf_snoc, hkc] at hv
        by_cases hpl : p < 2 * (l.length + 1)
        · rw [if_neg (by omega)]
          rw [List.getElem?_append_left (by rw [hrl]; exact hpl)] at hv
          obtain ⟨lo, w1, w2⟩ := m4 p v hv
          exact ⟨lo, w1, by omega⟩
        · rw [List.getElem?_append_right (by rw [hrl]; omega), hrl] at hv
          have hlt : p - 2 * (l.length + 1) < 2 := (List.getElem?_eq_some_iff.1 hv).1
          rw [if_pos (by omega), show p - (0 + (l.length + 1) * 2) = p - 2 * (l.length + 1) by omega, hv]
          exact ⟨_, rfl, by omega⟩
      · have hbig : Nat.ble ((l.length + 1 + 1) * 16) 70368744177664 = true := by rw [nble]; simp; omega
        have h20 : Nat.beq 1 0 = false := rfl
        have h22 : Nat.beq 2 2 = true := rfl
        simp only [outV, appendV, h20, h22, hbig, Bool.and_self, cond_true, cond_false, hg]
      · simp only [Heap.setObj, hH4n, hnx1, nxOf]; omega
      · intro f hf
        simp only [Heap.setObj, Tr.get_put, if_neg hf]
  obtain ⟨H5, s7, hH5n, hH5g, M, M1, M2, M3, M4⟩ := happ
  generalize hE7 : E6.put 21 (some (outV (n1 + 2) (pk.length + 1))) = E7
  have s7' : oAppend 2 16 (.tmp 18) (.tmp 20) E6 H4 = some (outV (n1 + 2) (pk.length + 1), H5) := by
    have k1 : E6.get 18 = some (outV (n1 + 2) pk.length) := by rw [← hE6, ← hE5, ← hE4]; simp [Tr.get_put]
    have k2 : E6.get 20 = some (.slice (some ⟨H.next + 1, 0, 0⟩) 1 2) := by rw [← hE6]; simp [Tr.get_put]
    simp only [oAppend, eval, k1, k2, hsrc, s7]
  have s8 : oMove (.tmp 21) E7 = some (outV (n1 + 2) (pk.length + 1)) := by rw [← hE7]; simp [oMove, eval, Tr.get_put]
  refine ⟨E7.put 3 (some (outV (n1 + 2) (pk.length + 1))), H5, ?_, ?_⟩
  · simp only [exec, dcB, runOps, wanted, runOp, putDst, s0, hE1, s1, hE2, oAlloc, hH1n, hE3, hH2, s3, regionO, thenO, s4, hE4, s5, hE5, hH3n, s6, hE6, hH4, s7', hE7, s8, blockO]
  · refine ⟨?_, ?_, ?_, ?_, ?_, ?_, ?_⟩
    · rw [← hE7, ← hE6, ← hE5, ← hE4, ← hE3, ← hE2, ← hE1]; simp [Tr.get_put, g13]
    · simp [Tr.get_put]
    · rw [hH5g _ (by omega), hH4g, if_neg (by omega), hH3g, if_neg (by omega), hH1g, if_pos rfl]; simp
    · rw [hH5g _ (by omega), hH4g, if_neg (by omega), hH3g, if_neg (by omega), hH1g, if_neg hmr, h.map]
    · rw [hH5n]; simp
    · intro _
      exact ⟨M, M1, by simp [M2], by simp [M3], M4⟩
    · intro f hf hfr
      rw [hH5g _ (by omega), hH4g, if_neg (by omega), hH3g, if_neg (by omega), hH1g, if_neg hfr, h.base f hf hfr]
end Go.Sk
