/- 'append(x, make([]T, n)...)' on a slice of the call's own: so many zero values. -/
import Derived.Test.YtihohljhjdmamaaGreatKit3
namespace Go.Proofs.YtihohljhjdmamaaGreat
open Go.RowKit

theorem zeroCells_one (z : Value) (m : Nat) : Builtin.zeroCells #[z] m = Array.replicate m z := by
  apply Array.ext
  · simp [Builtin.zeroCells]
  · intro i h1 h2
    simp [Builtin.zeroCells, Nat.mod_one]

theorem run_append_zeros {P : Program} {w : World} (t ty xT : TypeId) (k k2 : IntKind) (hxT : P.underlying xT = some (.int k)) (B : Nat) (e : TypeId) (z : Value) (bytes : Nat) (E : ElemOf P t e z bytes) (hz : z.cells = #[z]) (h1 : z.oneCell' = true)
    (v : Value) (xs : List Value) (hown : Owns w B e v xs) (m : Nat) (hbytes : (xs.length + m) * bytes ≤ 140737488355328) (h63 : xs.length + m ≤ maxLen) (hB : B ≤ w.heap.size) :
    ∃ v' w1, (Builtin.append_ #[t, xT] ty #[v, .int k2 (m : Nat)]).run P w = .ok v' w1 ∧ Owns w1 B e v' (xs ++ List.replicate m z) ∧ Grew w v w1 v' := by
  obtain ⟨i, hi, hz0, hz1, hz2⟩ := info_parts E.info
  have hz1' : i.size = 1 := hz1
  have hm64 : IntKind.i64.wrap (m : Int) = (m : Int) := IntWalk.i64_in _ (by unfold maxLen at h63; omega)
  have hn0 : ¬ ((m : Int) < 0) := by omega
  have hmb : (m : Int) * (i.bytes : Int) ≤ 140737488355328 := by
    rw [hz2, ← Int.natCast_mul]
    have : m * bytes ≤ (xs.length + m) * bytes := Nat.mul_le_mul_right _ (by omega)
    omega
  have hmb' : ¬ (281474976710656 < (m : Int) * (i.bytes : Int)) := by omega
  have hlen : (xs ++ List.replicate m z).length = (xs.length + m) * 1 := by rw [List.length_append, List.length_replicate, Nat.mul_one]
  have h63' : ¬ (9223372036854775807 < ((xs.length : Int) + (m : Int))) := by unfold maxLen at h63; omega
  have h63n : ¬ (9223372036854775807 < (m : Int)) := by unfold maxLen at h63; omega
  have grown : ∀ (old : Nat), old < xs.length + m → 
      Owns (w.drew.alloc (.cells (xs.toArray ++ (List.replicate m z).toArray ++ Builtin.zeroCells z.cells (grownCap w (xs.length + m) old e - (xs.length + m))) e)) B e
        (.slice (some ⟨w.heap.size, 0, none⟩) (xs.length + m) (grownCap w (xs.length + m) old e)) (xs ++ List.replicate m z) ∧
      Grew w v (w.drew.alloc (.cells (xs.toArray ++ (List.replicate m z).toArray ++ Builtin.zeroCells z.cells (grownCap w (xs.length + m) old e - (xs.length + m))) e)) (.slice (some ⟨w.heap.size, 0, none⟩) (xs.length + m) (grownCap w (xs.length + m) old e)) := by
    intro old ho
    have hge := grownCap_ge w (xs.length + m) old e
    have hcm : grownCap w (xs.length + m) old e ≤ maxLen := grownCap_le_maxLen w (xs.length + m) old e h63
    refine ⟨?_, ⟨⟨rfl, rfl, rfl, by simp, fun k hk _ => (World.grownBy_alloc w.drew _ none).block k hk (by simp)⟩, .inr ⟨_, rfl, Nat.le_refl _⟩⟩⟩
    unfold Owns
    rw [show (xs ++ List.replicate m z).length = xs.length + m by simp]
    refine ⟨hlen, .inr ⟨w.heap.size, _, _, rfl, hB, heap_alloc_new w.drew _, hge, hcm, ?_, ?_⟩⟩
    · simp only [Array.size_append, List.size_toArray, size_zeroCells, hz, List.length_replicate]
      simp
      omega
    · simp only [Array.toList_append]
      have e1 : (xs.length + m) * 1 = (xs ++ List.replicate m z).length := by simp
      rw [e1]
      exact List.take_left
  rcases hown.shape with ⟨rfl, hx⟩ | ⟨g, cap, rfl, hBg, hgs, hnc, hcm⟩
  · subst hx
    by_cases hm : m = 0
    · subst hm
      refine ⟨.slice none 0 0, w, ?_, by simpa using Owns.nil w B e, Grew.refl _ _⟩
      have hw0 : IntKind.i64.wrap (0 : Int) = 0 := by decide
      simp [Builtin.append_, run_underlying E.ht, run_underlying hxT, sizeOf, typeInfo, hi, hw0, asInt, asIntOf]
    · have hgr := grown 0 (by omega)
      have h48' : ¬ (281474976710656 < Builtin.nextslicecap m 0 * i.bytes) := by
        rw [nextslicecap_zero (by omega), hz2]
        simp at hbytes
        omega
      simp only [List.length_nil, Nat.zero_add, List.nil_append] at hgr
      refine ⟨_, _, ?_, hgr.1, hgr.2⟩
      simp [Builtin.append_, run_underlying E.ht, run_underlying hxT, sizeOf, typeInfo, zeroValue, hi, hz0, hz1', hm64, hn0, hmb', hm, asInt, asIntOf, h63n, h48', Question.forced, run_firstCells_none, newRow, grownCap, hz, zeroCells_one]
  · rcases hown.2 with ⟨h, _⟩ | ⟨g', cap', cur, h, _, hg, hnc', hcm', hcs, htake⟩
    · cases h
    · injection h with h4 h5 h6
      injection h4 with h4
      injection h4 with h4
      subst h4 h6
      by_cases hroom : xs.length + m ≤ cap
      · have hst := run_storeCells_at P g xs.length e (List.replicate m z) 0 cur w hg (by rw [List.length_replicate]; rw [hcs]; omega) (by intro u hu; rw [List.eq_of_mem_replicate hu]; exact h1)
        simp only [Nat.add_zero] at hst
        have hcur : cur.size = cap := by rw [hcs, Nat.mul_one]
        refine ⟨.slice (some ⟨g, 0, none⟩) (xs.length + m) cap, w.setRow g (cur.toList.take xs.length ++ List.replicate m z ++ cur.toList.drop (xs.length + m)).toArray, ?_, ?_, ⟨⟨rfl, rfl, rfl, by simp [World.setRow], fun k _ hk => setRow_other w g k _ (fun e => hk (by rw [e]; rfl))⟩, .inl rfl⟩⟩
        · simp only [List.length_replicate] at hst
          by_cases hm : m = 0
          · subst hm
            have hs := setRow_self w g cur e (0, 0) hg
            simp only [List.replicate_zero, List.append_nil, Nat.add_zero, List.take_append_drop, Array.toArray_toList, hs]
            have hw0 : IntKind.i64.wrap (0 : Int) = 0 := by decide
            simp [Builtin.append_, run_underlying E.ht, run_underlying hxT, sizeOf, typeInfo, zeroValue, hi, hw0, asInt, asIntOf, hnc', Addr.add_lit, storeCells]
          · simp [Builtin.append_, run_underlying E.ht, run_underlying hxT, sizeOf, typeInfo, zeroValue, hi, hz0, hz1', hm64, hn0, hmb', hm, asInt, asIntOf, hroom, Addr.add_lit, hz, zeroCells_one]
            simp only [List.append_assoc] at hst
            simp [hst]
        · unfold Owns
          rw [show (xs ++ List.replicate m z).length = xs.length + m by simp]
          refine ⟨hlen, .inr ⟨g, cap, _, rfl, hBg, setRow_heap w g cur _ e _ hg, hroom, hcm, ?_, ?_⟩⟩
          · simp only [List.size_toArray, List.length_append, List.length_take, List.length_drop, Array.length_toList, List.length_replicate]
            omega
          · rw [show cur.toList.take xs.length = xs by rw [Nat.mul_one] at htake; exact htake]
            have e1 : (xs.length + m) * 1 = (xs ++ List.replicate m z).length := by simp
            rw [e1]
            exact List.take_left
      · have hm : m ≠ 0 := by omega
        have hgr := grown cap (by omega)
        have holds : ∀ j u, xs[j]? = some u → w.drew.cell? ((⟨g, 0, none⟩ : Addr).add j) = some u := hown.news
        have hfo := run_firstCells_some (P := P) w.drew i.size xs.length ⟨g, 0, none⟩ xs.length cap xs (by rw [hz1', Nat.mul_one]) holds
        have h48' : ¬ (281474976710656 < Builtin.nextslicecap (xs.length + m) cap * i.bytes) := by
          have := growslice_fits (need := xs.length + m) (old := cap) (bytes := i.bytes) (by omega) (by rw [hz2]; exact hbytes)
          omega
        refine ⟨_, _, ?_, hgr.1, hgr.2⟩
        rw [hz1'] at hfo
        simp [Builtin.append_, run_underlying E.ht, run_underlying hxT, sizeOf, typeInfo, zeroValue, hi, hz0, hz1', hm64, hn0, hmb', hm, asInt, asIntOf, hroom, h63', h48', Question.forced, hfo, newRow, grownCap, hz, zeroCells_one]

theorem wpList_zeros {P : Program} {ops : Array Oper} {rest : List Oper} {o : Oper} {a : Act} {w : World} {Q : Exit → Act → World → Prop} (hgd : o.guard = none) (s x : Operand) (t xT : TypeId)
    (ho : o.op = .call { callee := .builtin .append, args := #[s, x], argTypes := #[t, xT] }) (k k2 : IntKind) (hxT : P.underlying xT = some (.int k))
    (B : Nat) (e : TypeId) (z : Value) (bytes : Nat) (E : ElemOf P t e z bytes) (hz : z.cells = #[z]) (h1 : z.oneCell' = true) (v : Value) (xs : List Value) (hs : a.eval s = v) (hown : Owns w B e v xs)
    (m : Nat) (hx : a.eval x = .int k2 (m : Nat)) (hbytes : (xs.length + m) * bytes ≤ 140737488355328) (h63 : xs.length + m ≤ maxLen) (hB : B ≤ w.heap.size)
    (h : ∀ v' w1, Owns w1 B e v' (xs ++ List.replicate m z) → Grew w v w1 v' → wpList P ops Q rest (a.put o.dst v') w1) :
    wpList P ops Q (o :: rest) a w := by
  refine wpList_plain hgd fun K hK => ?_
  obtain ⟨v', w1, hr, h2, h3⟩ := run_append_zeros (P := P) t o.type xT k k2 hxT B e z bytes E hz h1 v xs hown m hbytes h63 hB
  unfold Oper.wp execOp
  simp only [ho, resolve, invoke, builtin, Sem.run_bind, Sem.run_pure, Result.andThen_ok, List.map_toArray, List.map_cons, List.map_nil, hs, hx, hr]
  exact hK _ _ (h v' w1 h2 h3)
theorem step_zeros {P : Program} {ops : Array Oper} {o : Oper} {a : Act} {w : World} {K : Act → World → Prop} {Q : Exit → Act → World → Prop} {F : Prop} (hgd : o.guard = none) (s x : Operand) (t xT : TypeId)
    (ho : o.op = .call { callee := .builtin .append, args := #[s, x], argTypes := #[t, xT] }) (k k2 : IntKind) (hxT : P.underlying xT = some (.int k))
    (B : Nat) (e : TypeId) (z : Value) (bytes : Nat) (E : ElemOf P t e z bytes) (hz : z.cells = #[z]) (h1 : z.oneCell' = true) (v : Value) (xs : List Value) (hs : a.eval s = v) (hown : Owns w B e v xs)
    (m : Nat) (hx : a.eval x = .int k2 (m : Nat)) (hbytes : (xs.length + m) * bytes ≤ 140737488355328) (h63 : xs.length + m ≤ maxLen) (hB : B ≤ w.heap.size)
    (h : ∀ v' w1, Owns w1 B e v' (xs ++ List.replicate m z) → Grew w v w1 v' → K (a.put o.dst v') w1) :
    if Region.wanted o (yielded ops a.tmps) = true then Oper.wp P o a w K Q else F := by
  have hw : Region.wanted o (yielded ops a.tmps) = true := by simp [Region.wanted, hgd]
  rw [if_pos hw]
  obtain ⟨v', w1, hr, h2, h3⟩ := run_append_zeros (P := P) t o.type xT k k2 hxT B e z bytes E hz h1 v xs hown m hbytes h63 hB
  unfold Oper.wp execOp
  simp only [ho, resolve, invoke, builtin, Sem.run_bind, Sem.run_pure, Result.andThen_ok, List.map_toArray, List.map_cons, List.map_nil, hs, hx, hr]
  exact h v' w1 h2 h3
/-- the same, the value written out -/
theorem step_zeros' {P : Program} {ops : Array Oper} {o : Oper} {a : Act} {w : World} {K : Act → World → Prop} {Q : Exit → Act → World → Prop} {F : Prop} (hgd : o.guard = none) (s x : Operand) (t xT : TypeId)
    (ho : o.op = .call { callee := .builtin .append, args := #[s, x], argTypes := #[t, xT] }) (k k2 : IntKind) (hxT : P.underlying xT = some (.int k))
    (B : Nat) (e : TypeId) (z : Value) (bytes : Nat) (E : ElemOf P t e z bytes) (hz : z.cells = #[z]) (h1 : z.oneCell' = true) (v : Value) (xs : List Value) (hs : a.eval s = v) (hown : Owns w B e v xs)
    (m : Nat) (hx : a.eval x = .int k2 (m : Nat)) (hbytes : (xs.length + m) * bytes ≤ 140737488355328) (h63 : xs.length + m ≤ maxLen) (hB : B ≤ w.heap.size) (N : Nat) (hN : N = xs.length + m)
    (h : ∀ ao cap w1, Owns w1 B e (.slice ao N cap) (xs ++ List.replicate m z) → Grew w v w1 (.slice ao N cap) → K (a.put o.dst (.slice ao N cap)) w1) :
    if Region.wanted o (yielded ops a.tmps) = true then Oper.wp P o a w K Q else F := by
  refine step_zeros hgd s x t xT ho k k2 hxT B e z bytes E hz h1 v xs hs hown m hx hbytes h63 hB ?_
  intro v' w1 h2 h3
  obtain ⟨ao, cap, rfl, _⟩ := h2.form
  rw [show (xs ++ List.replicate m z).length = N by simp [hN]] at h2 h3 ⊢
  exact h ao cap w1 h2 h3
theorem wpList_zeros' {P : Program} {ops : Array Oper} {rest : List Oper} {o : Oper} {a : Act} {w : World} {Q : Exit → Act → World → Prop} (hgd : o.guard = none) (s x : Operand) (t xT : TypeId)
    (ho : o.op = .call { callee := .builtin .append, args := #[s, x], argTypes := #[t, xT] }) (k k2 : IntKind) (hxT : P.underlying xT = some (.int k))
    (B : Nat) (e : TypeId) (z : Value) (bytes : Nat) (E : ElemOf P t e z bytes) (hz : z.cells = #[z]) (h1 : z.oneCell' = true) (v : Value) (xs : List Value) (hs : a.eval s = v) (hown : Owns w B e v xs)
    (m : Nat) (hx : a.eval x = .int k2 (m : Nat)) (hbytes : (xs.length + m) * bytes ≤ 140737488355328) (h63 : xs.length + m ≤ maxLen) (hB : B ≤ w.heap.size) (N : Nat) (hN : N = xs.length + m)
    (h : ∀ ao cap w1, Owns w1 B e (.slice ao N cap) (xs ++ List.replicate m z) → Grew w v w1 (.slice ao N cap) → wpList P ops Q rest (a.put o.dst (.slice ao N cap)) w1) :
    wpList P ops Q (o :: rest) a w := by
  refine wpList_zeros hgd s x t xT ho k k2 hxT B e z bytes E hz h1 v xs hs hown m hx hbytes h63 hB ?_
  intro v' w1 h2 h3
  obtain ⟨ao, cap, rfl, _⟩ := h2.form
  rw [show (xs ++ List.replicate m z).length = N by simp [hN]] at h2 h3 ⊢
  exact h ao cap w1 h2 h3
/-- a slice of other elements is kept -/
theorem Owns.other {w w1 : World} {B B2 : Nat} {e e2 : TypeId} {v v1 u : Value} {xs ys : List Value} (hu : Owns w B2 e2 u ys) (hv : Owns w B e v xs) (hne : e2 ≠ e) (hg : Grew w v w1 v1) : Owns w1 B2 e2 u ys := by
  refine hu.kept_of hg.grown ?_
  rcases hu.2 with ⟨h1, _⟩ | ⟨g, cap, cur, h1, _, h3, _⟩
  · exact .inr (by rw [h1]; rfl)
  · left
    rw [h1]
    intro e0
    exact hv.ne_row h3 hne e0.symm
end Go.Proofs.YtihohljhjdmamaaGreat
