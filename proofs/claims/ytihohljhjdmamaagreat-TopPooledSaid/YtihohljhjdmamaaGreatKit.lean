/- Small laws of ours for the walks, of no one function. -/
import Derived.WalkKit
import Derived.WalkSpells
import Derived.WalkLawsBesides
import Derived.Lib.Hide
import Derived.Laws.CopyOwn
import Derived.Laws.IdiomStrings
import Derived.Lib.Strings
import Derived.Lib.BufferWrite
import Derived.Deep.AppendLies
namespace Go.Proofs.YtihohljhjdmamaaGreat
open Go.RowKit

theorem data_at (s : ByteArray) (i : Nat) (h : i < s.size) : s.data.toList[i]? = some s[i] := by
  obtain ⟨d⟩ := s
  have h' : i < d.size := h
  show d.toList[i]? = some d[i]
  simp [h']
theorem ret_int {k : IntKind} {a b : Int} (h : a = b) : Ending.returned (.int k a) = .returned (.int k b) := by rw [h]
theorem ret_bool {a b : Bool} (h : a = b) : Ending.returned (.bool a) = .returned (.bool b) := by rw [h]
theorem ba_ext {a b : ByteArray} (h : a.data.toList = b.data.toList) : a = b := by
  obtain ⟨⟨a⟩⟩ := a; obtain ⟨⟨b⟩⟩ := b
  simp at h; rw [h]
theorem ret_str {a b : ByteArray} (h : a = b) : Ending.returned (.string a) = .returned (.string b) := by rw [h]
theorem mk_data (s : ByteArray) : (⟨s.data.toList.toArray⟩ : ByteArray) = s := by obtain ⟨⟨l⟩⟩ := s; rfl
theorem size_data (s : ByteArray) : s.data.toList.length = s.size := by obtain ⟨⟨l⟩⟩ := s; rfl

/-- the cells of a row of bytes -/
def bcells (l : List UInt8) : List Value := l.map fun b => .int .u8 b.toNat
theorem bcells_length (l : List UInt8) : (bcells l).length = l.length := by simp [bcells]
theorem bcells_getElem? (l : List UInt8) (i : Nat) : (bcells l)[i]? = l[i]?.map fun b => Value.int .u8 b.toNat := by simp [bcells]
theorem bcells_one (l : List UInt8) : ∀ v ∈ bcells l, v.oneCell' = true := by
  intro v hv
  obtain ⟨b, _, rfl⟩ := List.mem_map.1 hv
  rfl
theorem bcells_append (l m : List UInt8) : bcells (l ++ m) = bcells l ++ bcells m := by simp [bcells]
theorem bcells_take (l : List UInt8) (n : Nat) : bcells (l.take n) = (bcells l).take n := by simp [bcells]
theorem bcells_drop (l : List UInt8) (n : Nat) : bcells (l.drop n) = (bcells l).drop n := by simp [bcells]

theorem add_plain (b o j : Nat) : (⟨b, o, none⟩ : Addr).add j = ⟨b, o + j, none⟩ := by unfold Addr.add; split <;> simp_all

/-- 'string(b)' where b's cells are the bytes l. -/
theorem wpList_conv_bytes {P : Program} {ops : Array Oper} {rest : List Oper} {o : Oper} {a : Act} {w : World} {Q : Exit → Act → World → Prop} (hgd : o.guard = none) (src dst e : TypeId) (x : Operand) (ho : o.op = .convert src dst x)
    (hs : P.underlying src = some (.slice e)) (he : P.underlying e = some (.int .u8)) (hd : P.underlying dst = some .string)
    (g off n cap : Nat) (hx : a.eval x = .slice (some ⟨g, off, none⟩) n cap) (l : List UInt8) (hn : l.length = n)
    (hc : ∀ j (hj : j < l.length), w.cell? ⟨g, off + j, none⟩ = some (.int .u8 (l[j].toNat : Int)))
    (h : wpList P ops Q rest (a.put o.dst (.string ⟨l.toArray⟩)) w) : wpList P ops Q (o :: rest) a w := by
  refine wpList_plain hgd fun K hK => ?_
  subst hn
  have hrun := run_convert_bytes_back (P := P) w src dst e ⟨g, off, none⟩ cap l hs he hd (fun j hj => by rw [add_plain]; exact hc j hj)
  unfold Oper.wp execOp
  simp only [ho, hx, hrun, Sem.run_bind, Sem.run_pure, Result.andThen_ok]
  exact hK _ _ h

/-- 'copy(dst, s)', s a string that fits, dst in a row that is known whole. -/
theorem wpList_copy_str {P : Program} {w : World} {ops : Array Oper} {rest : List Oper} {o : Oper} {a : Act} {Q : Exit → Act → World → Prop} (hgd : o.guard = none) (d s : Operand) (dT sT : TypeId)
    (ho : o.op = .call { callee := .builtin .copy, args := #[d, s], argTypes := #[dT, sT] }) (elem : TypeId) (hu : P.underlying dT = some (.slice elem)) (hsz : (P.info? elem).map (·.size) = some 1)
    (g off dLen dCap : Nat) (str : ByteArray) (hd : a.eval d = .slice (some ⟨g, off, none⟩) dLen dCap) (hs : a.eval s = .string str)
    (cur : Array Value) (t : TypeId) (hg : w.heap[g]? = some (.cells cur t (0, 0))) (hle : str.size ≤ dLen) (hfit : off + str.size ≤ cur.size)
    (h : wpList P ops Q rest (a.put o.dst (goInt str.size)) (w.setRow g (cur.toList.take off ++ bcells str.data.toList ++ cur.toList.drop (off + str.size)).toArray)) : wpList P ops Q (o :: rest) a w := by
  refine wpList_plain hgd fun K hK => ?_
  have hrun := Lib.run_copy_row_string (P := P) w dT sT o.type elem g off dLen dCap str cur t hu hsz hg hle hfit
  unfold Oper.wp
  rw [List.append_assoc] at h
  simp [execOp, ho, resolve, invoke, builtin, hd, hs, hrun, Result.andThen]
  exact hK _ _ h

theorem row_of_bcells {w : World} {g : Nat} {t : TypeId} {fr : Nat × Nat} {l : List UInt8} (hg : w.heap[g]? = some (.cells (bcells l).toArray t fr)) (j : Nat) (hj : j < l.length) :
    w.cell? ⟨g, j, none⟩ = some (.int .u8 (l[j].toNat : Int)) := by
  rw [cell_of_row w g j _ t fr hg]
  simp [bcells, List.getElem?_eq_getElem hj]

/-- results: a cell that holds a whole row, and one slot. -/
theorem results_row_tmp {P : Program} {fn : Func} {p q : Tmp} {ty : TypeId} (h : fn.results = #[.cell p ty, .tmp q]) (tmps : Array Value) (w : World) (g : Nat) (t : TypeId) (cs : Array Value) (fr : Nat × Nat) (d : TypeDesc)
    (hp : tmps.getD p undef = .pointer (some ⟨g, 0, none⟩)) (hg : w.heap[g]? = some (.cells cs t fr))
    (hu : P.underlying ty = some d) (hd : (match d with | .struct _ | .array _ _ => true | _ => false) = true) (hi : (P.info? ty).map (·.size) = some cs.size) :
    (results fn tmps).run P w = .ok (.tuple #[.agg cs, tmps.getD q undef]) w := by
  have hp' : tmps[p]?.getD undef = .pointer (some ⟨g, 0, none⟩) := by simpa using hp
  simp [results, h, hp', asAddr, run_loadVar_row w g t ty cs fr d hg hu hd hi]

theorem grown_trans {a b c : World} {r : Option Nat} (h1 : a.grownBy b r) (h2 : b.grownBy c r) : a.grownBy c r :=
  ⟨h2.os.trans h1.os, h2.tape.trans h1.tape, h2.output.trans h1.output, Nat.le_trans h1.size h2.size, fun k hk hr => (h2.block k (Nat.lt_of_lt_of_le hk h1.size) hr).trans (h1.block k hk hr)⟩
theorem grown_drewN (w : World) (n : Nat) (r : Option Nat) : w.grownBy (w.drewN n) r := ⟨rfl, rfl, rfl, Nat.le_refl _, fun _ _ _ => rfl⟩
theorem grown_drew (w : World) (r : Option Nat) : w.grownBy w.drew r := ⟨rfl, rfl, rfl, Nat.le_refl _, fun _ _ _ => rfl⟩
theorem grown_setRow (w : World) (g : Nat) (cs : Array Value) : w.grownBy (w.setRow g cs) (some g) :=
  ⟨rfl, rfl, rfl, by simp [World.setRow], fun k _ hr => setRow_other w g k cs (fun e => hr (by rw [e]))⟩
theorem grown_setCell (w : World) (a : Addr) (v : Value) : w.grownBy (w.setCell a v) (some a.block) :=
  ⟨rfl, rfl, rfl, by simp, fun k _ hr => heap_setCell_other w a k v (fun e => hr (by rw [e]))⟩
theorem below_grown {B : Nat} {w w' : World} {g : Nat} (h : w.grownBy w' (some g)) (hg : B ≤ g) (hB : B ≤ w.heap.size) : Below B w w' :=
  (Below.refl B w).grown h hB (fun k e => by cases e; exact hg)
theorem below_drewN {B : Nat} {a w : World} (h : Below B a w) (n : Nat) : Below B a (w.drewN n) := h.trans ⟨rfl, rfl, rfl, Nat.le_refl _, fun _ _ => rfl⟩

/-! ### numbers of 64 bits -/
theorem wrap64u_in (n : Int) (h0 : 0 ≤ n) (h1 : n < 18446744073709551616) : IntKind.u64.wrap n = n := by
  rw [IntKind.wrap_u64]; omega
theorem pow_le_pow2 {a b : Nat} (h : a ≤ b) : 2 ^ a ≤ 2 ^ b := Nat.pow_le_pow_right (by decide) h
theorem cast_pow (k : Nat) : (2 : Int) ^ k = ((2 ^ k : Nat) : Int) := by simp
/-- 'x & (1<<k - 1)' -/
theorem u64_mask (x k : Nat) (hx : x < 18446744073709551616) (hk : k ≤ 63) :
    bits .and .u64 (x : Int) (IntKind.u64.wrap (IntKind.u64.wrap ((2 : Int) ^ k) - 1)) = ((x % 2 ^ k : Nat) : Int) := by
  have h1 : 2 ^ k ≤ 2 ^ 63 := pow_le_pow2 hk
  have h2 : 0 < 2 ^ k := Nat.pow_pos (by decide)
  rw [cast_pow, wrap64u_in ((2 ^ k : Nat) : Int) (by omega) (by omega), wrap64u_in (((2 ^ k : Nat) : Int) - 1) (by omega) (by omega)]
  rw [show (((2 ^ k : Nat) : Int) - 1) = ((2 ^ k - 1 : Nat) : Int) by omega]
  rw [u64_and_nat _ _ hx (by omega), Nat.and_two_pow_sub_one_eq_mod]
/-- 'n << k | p', p of k bits -/
theorem u64_join (n k p : Nat) (hn : n * 2 ^ k < 18446744073709551616) (hk : k ≤ 63) (hp : p < 2 ^ k) :
    bits .or .u64 (IntKind.u64.wrap ((n : Int) * (2 : Int) ^ k)) (p : Int) = ((n * 2 ^ k + p : Nat) : Int) := by
  have h1 : 2 ^ k ≤ 2 ^ 63 := pow_le_pow2 hk
  have e : (n : Int) * (2 : Int) ^ k = ((n * 2 ^ k : Nat) : Int) := by rw [cast_pow]; simp
  rw [e, wrap64u_in _ (by omega) (by omega), u64_or_nat _ _ (by omega) (by omega)]
  rw [nat_join k (n * 2 ^ k) p (Nat.mul_mod_left _ _) hp]

/-! ### slices of the call's own, of one-cell elements -/
/-- v is a slice of the call's own (its row among the blocks from B on), that holds xs -/
def Owns (w : World) (B : Nat) (e : TypeId) (v : Value) (xs : List Value) : Prop := w.ownsRow B e 1 v xs.length xs
/-- t is the type of slices of e; e's zero value, one cell, and bytes -/
structure ElemOf (P : Program) (t e : TypeId) (z : Value) (bytes : Nat) : Prop where
  ht : P.underlying t = some (.slice e)
  info : (P.info? e).map (fun i => (i.zero, i.size, i.bytes)) = some (some z, 1, bytes)
  one : z.cells.size = 1

theorem Owns.nil (w : World) (B : Nat) (e : TypeId) : Owns w B e (.slice none 0 0) [] := World.ownsRow_nil _ _ _ _
theorem Owns.kept {w w' : World} {B : Nat} {e : TypeId} {v : Value} {xs : List Value} (h : Owns w B e v xs) {r : Option Nat} (hg : w.grownBy w' r) (hr : ∀ k, r = some k → k < B) : Owns w' B e v xs := by
  refine World.ownsRow.kept h hg ?_
  by_cases hv : v.ownBlock = none
  · exact .inl hv
  · right
    intro e
    obtain ⟨k, hk⟩ := Option.ne_none_iff_exists'.1 hv
    have h1 := (World.ownsRow.lt h k hk).1
    have h2 := hr k (by rw [← e]; exact hk)
    omega
theorem Owns.kept_of {w w' : World} {B : Nat} {e : TypeId} {v : Value} {xs : List Value} (h : Owns w B e v xs) {r : Option Nat} (hg : w.grownBy w' r) (hr : v.ownBlock ≠ r ∨ v.ownBlock = none) : Owns w' B e v xs :=
  World.ownsRow.kept h hg (hr.symm)
theorem Owns.drewN {w : World} {B : Nat} {e : TypeId} {v : Value} {xs : List Value} (h : Owns w B e v xs) (n : Nat) : Owns (w.drewN n) B e v xs := h.kept (grown_drewN w n none) (fun k hk => by cases hk)
theorem Owns.drew {w : World} {B : Nat} {e : TypeId} {v : Value} {xs : List Value} (h : Owns w B e v xs) : Owns w.drew B e v xs := h.kept (grown_drew w none) (fun k hk => by cases hk)
theorem Owns.shape {w : World} {B : Nat} {e : TypeId} {v : Value} {xs : List Value} (h : Owns w B e v xs) : (v = .slice none 0 0 ∧ xs = []) ∨ ∃ g cap, v = .slice (some ⟨g, 0, none⟩) xs.length cap ∧ B ≤ g ∧ g < w.heap.size ∧ xs.length ≤ cap ∧ cap ≤ maxLen := by
  rcases h.2 with ⟨h1, h2⟩ | ⟨g, cap, cur, h1, h2, h3, h4, h5, _⟩
  · exact .inl ⟨h1, List.length_eq_zero_iff.1 h2⟩
  · exact .inr ⟨g, cap, h1, h2, (Array.getElem?_eq_some_iff.1 h3).1, h4, h5⟩
theorem Owns.cell {w : World} {B : Nat} {e : TypeId} {g n cap : Nat} {xs : List Value} (h : Owns w B e (.slice (some ⟨g, 0, none⟩) n cap) xs) (j : Nat) (hj : j < xs.length) : w.cell? ⟨g, j, none⟩ = some xs[j] := by
  rcases h.shape with ⟨h1, _⟩ | ⟨g', cap', h1, _⟩
  · cases h1
  · injection h1 with h1 h2 h3
    subst h2
    have := World.ownsRow.cellAt h j (by omega)
    rw [this, List.getElem?_eq_getElem hj]

/-- 'out = append(out, x)', out the call's own (or nil). -/
theorem wpList_push {P : Program} {ops : Array Oper} {rest : List Oper} {o : Oper} {a : Act} {w : World} {Q : Exit → Act → World → Prop} (hgd : o.guard = none) (s x : Operand) (t : TypeId)
    (ho : o.op = .call { callee := .builtin .append, args := #[s, x], argTypes := #[t, t] })
    (B : Nat) (e : TypeId) (z : Value) (bytes : Nat) (E : ElemOf P t e z bytes) (v : Value) (xs : List Value) (hs : a.eval s = v) (hown : Owns w B e v xs)
    (u : Value) (hx : a.eval x = .slice (some ⟨w.heap.size, 0, none⟩) 1 1) (hu : u.oneCell' = true) (hbytes : (xs.length + 1) * bytes ≤ 140737488355328) (h63 : xs.length + 1 ≤ maxLen) (hB : B ≤ w.heap.size)
    (h : ∀ g cap w1, Owns w1 B e (.slice (some ⟨g, 0, none⟩) (xs.length + 1) cap) (xs ++ [u]) → Below B w w1 → w.grownBy w1 v.ownBlock → B ≤ g → wpList P ops Q rest (a.put o.dst (.slice (some ⟨g, 0, none⟩) (xs.length + 1) cap)) w1) :
    wpList P ops Q (o :: rest) a (w.alloc (.cells #[u] e)) := by
  obtain ⟨i, hi, hz0, hz1, hz2⟩ := info_parts E.info
  refine wpList_append_own (w.alloc (.cells #[u] e)) hgd s x t ho B e i z 1 bytes E.ht hi hz0 hz1 hz2 E.one (by decide) v xs.length xs hs (World.ownsRow.alloc hown _) ⟨w.heap.size, 0, none⟩ 1 1 [u] hx rfl ?_ ?_ h63 hbytes (by simp; omega) ?_
  · intro j y hj
    match j, hj with
    | 0, hj =>
      simp at hj; subst hj
      have := heap_alloc_new w (.cells #[u] e)
      rw [add_plain, cell_of_row _ _ _ _ _ _ this]; rfl
  · intro y hy; simp at hy; subst hy; exact hu
  · intro v' w1 hown' hgrow _
    have hown2 : w1.ownsRow B e 1 v' (xs ++ [u]).length (xs ++ [u]) := by simpa using hown'
    have hgw : w.grownBy w1 v.ownBlock := grown_trans (World.grownBy_alloc w _ _) hgrow
    rcases Owns.shape (show Owns w1 B e v' (xs ++ [u]) from hown2) with ⟨_, h2⟩ | ⟨g, cap, h1, h2, _⟩
    · simp at h2
    · have h1' : v' = .slice (some ⟨g, 0, none⟩) (xs.length + 1) cap := by simpa using h1
      rw [h1'] at hown2 ⊢
      refine h g cap w1 hown2 ?_ hgw h2
      refine (Below.refl B w).grown hgw hB (fun k hk => (World.ownsRow.lt hown k hk).1)

theorem grown_alloc_drew (w : World) (o : Obj) (r : Option Nat) : w.grownBy (w.alloc o).drew r := grown_trans (World.grownBy_alloc w o r) (grown_drew _ r)
/-- 'out = append(out, x)' as one step of a region that draws its order. -/
theorem step_push {P : Program} {ops : Array Oper} {o : Oper} {a : Act} {W : World} {K : Act → World → Prop} {Q : Exit → Act → World → Prop} {E : Prop} (hgd : o.guard = none) (s x : Operand) (t : TypeId)
    (ho : o.op = .call { callee := .builtin .append, args := #[s, x], argTypes := #[t, t] })
    (B : Nat) (e : TypeId) (z : Value) (bytes : Nat) (El : ElemOf P t e z bytes) (w0 : World) (v : Value) (xs : List Value) (hown : Owns w0 B e v xs)
    (u : Value) (hu : u.oneCell' = true) (hbytes : (xs.length + 1) * bytes ≤ 140737488355328) (h63 : xs.length + 1 ≤ maxLen) (hB : B ≤ w0.heap.size)
    (hs : a.eval s = v) (H0 : Nat) (hx : a.eval x = .slice (some ⟨H0, 0, none⟩) 1 1) (hW : w0.grownBy W none) (hnew : W.heap[H0]? = some (.cells #[u] e (0, 0)))
    (h : ∀ g cap w1, Owns w1 B e (.slice (some ⟨g, 0, none⟩) (xs.length + 1) cap) (xs ++ [u]) → w0.grownBy w1 v.ownBlock → B ≤ g → K (a.put o.dst (.slice (some ⟨g, 0, none⟩) (xs.length + 1) cap)) w1) :
    if Region.wanted o (yielded ops a.tmps) = true then Oper.wp P o a W K Q else E := by
  obtain ⟨i, hi, hz0, hz1, hz2⟩ := info_parts El.info
  have hown2 : Owns W B e v xs := hown.kept hW (fun k hk => by cases hk)
  refine step_append_lies W hgd s x t ho B e i z 1 bytes El.ht hi hz0 hz1 hz2 El.one (by decide) v xs.length xs hs hown2 ⟨H0, 0, none⟩ 1 1 [u] hx rfl (World.news_of_block hnew) ?_ (by decide) h63 hbytes (Nat.le_trans hB hW.size) _ rfl ?_
  · intro y hy; simp at hy; subst hy; exact hu
  · intro g cap w1 hown' hgrow _ _
    have hown3 : Owns w1 B e (.slice (some ⟨g, 0, none⟩) (xs.length + 1) cap) (xs ++ [u]) := by
      unfold Owns; simpa using hown'
    have hg : w0.grownBy w1 v.ownBlock := grown_trans ⟨hW.os, hW.tape, hW.output, hW.size, fun k hk _ => hW.block k hk (by simp)⟩ hgrow
    refine h g cap w1 hown3 hg ?_
    rcases hown3.shape with ⟨h1, _⟩ | ⟨g', cap', h1, h2, _⟩
    · cases h1
    · injection h1 with h1; injection h1 with h1; injection h1 with h1; omega

/-- 'string(b)', b the call's own. -/
theorem wpList_conv_owned {P : Program} {ops : Array Oper} {rest : List Oper} {o : Oper} {a : Act} {w : World} {Q : Exit → Act → World → Prop} (hgd : o.guard = none) (src dst e : TypeId) (x : Operand) (ho : o.op = .convert src dst x)
    (hs : P.underlying src = some (.slice e)) (he : P.underlying e = some (.int .u8)) (hd : P.underlying dst = some .string)
    (B : Nat) (v : Value) (l : List UInt8) (hx : a.eval x = v) (hown : Owns w B e v (bcells l))
    (h : wpList P ops Q rest (a.put o.dst (.string ⟨l.toArray⟩)) w) : wpList P ops Q (o :: rest) a w := by
  rcases hown.shape with ⟨rfl, h2⟩ | ⟨g, cap, rfl, h2, _⟩
  · have hl : l = [] := by simpa [bcells] using h2
    subst hl
    refine wpList_plain hgd fun K hK => ?_
    have hrun : (convert src dst (.slice none 0 0)).run P w = .ok (.string ⟨#[]⟩) w := by
      rw [run_convert_bytes_string w src dst e _ 0 0 hs he hd]
      simp [Conv.bytesToString, ByteArray.empty, ByteArray.emptyWithCapacity]
      rfl
    unfold Oper.wp execOp
    simp only [ho, hx, hrun, Sem.run_bind, Sem.run_pure, Result.andThen_ok]
    exact hK _ _ h
  · refine wpList_conv_bytes hgd src dst e x ho hs he hd g 0 (bcells l).length cap hx l (by rw [bcells_length]) (fun j hj => ?_) h
    rw [Nat.zero_add, hown.cell j (by rw [bcells_length]; exact hj)]
    simp [bcells]
end Go.Proofs.YtihohljhjdmamaaGreat
