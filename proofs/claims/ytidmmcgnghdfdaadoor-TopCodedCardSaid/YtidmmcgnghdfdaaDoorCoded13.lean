/- table's reader: next. -/
import Derived.Test.YtidmmcgnghdfdaaDoorCoded12
namespace Go.Proofs.YtidmmcgnghdfdaaDoor
open Go.RowKit SortPlain PackPlain CanonPlain BitsPlain
set_option linter.unusedVariables false

theorem steps_up {c l : Nat} (h : c < l) : steps c l = true :: false :: steps (c + 1) l := by
  unfold steps
  obtain ⟨d, hd⟩ : ∃ d, l - c = d + 1 := ⟨l - c - 1, by omega⟩
  rw [hd, show l - (c + 1) = d by omega, show c - l = 0 by omega, show c + 1 - l = 0 by omega]
  rfl
theorem steps_down {c l : Nat} (h : l < c) : steps c l = true :: true :: steps (c - 1) l := by
  unfold steps
  obtain ⟨d, hd⟩ : ∃ d, c - l = d + 1 := ⟨c - l - 1, by omega⟩
  rw [hd, show l - c = 0 by omega, show c - 1 - l = d by omega, show l - (c - 1) = 0 by omega]
  rfl
theorem steps_none (l : Nat) : steps l l = [] := by unfold steps; rw [Nat.sub_self]; rfl
theorem drop_one {m : List Bool} {p : Nat} {x : Bool} {r : List Bool} (h : m.drop p = x :: r) : m.drop (p + 1) = r ∧ nat ((m.drop p).take 1) = x.toNat ∧ p + 1 ≤ m.length := by
  refine ⟨?_, ?_, ?_⟩
  · rw [← List.drop_drop, h]; rfl
  · rw [h]; cases x <;> rfl
  · have := congrArg List.length h
    simp at this
    omega
theorem ReadAt.kept {w w' : World} {r : Nat} {b : ByteArray} {n a : Nat} (h : ReadAt w r b n a) (hg : w.grownBy w' none) : ReadAt w' r b n a := row_kept h hg (by simp)

set_option maxRecDepth 100000 in
set_option maxHeartbeats 4000000 in
theorem tnext_any (r : Nat) (b : ByteArray) (m rest : List Bool) (a now l : Nat) (w : World) (hr : ReadAt w r b m.length a) (hm : IsBits b.data.toList m) (hml : m.length ≤ 1048576) (hnow : now ≤ 15) (hl : l ≤ 15) (hd : m.drop a = steps now l ++ false :: rest) :
    Calls Tryd.prog 44 #[.pointer (some ⟨r, 0, none⟩), .int .i64 (now : Nat)] w fun e w' => e = .returned (.tuple #[.int .i64 (l : Nat), .nilIface]) ∧ Hid (ReadAt w' r b m.length (a + (1 + 2 * (l - now + (now - l))))) ∧ Hid (w.grownBy w' (some r)) := by
  have HT : Hid (∀ (W : World) (p : Nat) (x : Bool) (q : List Bool), ReadAt W r b m.length p → m.drop p = x :: q → Calls Tryd.prog 43 #[.pointer (some ⟨r, 0, none⟩), .int .i64 1] W fun e w' => e = .returned (.tuple #[.int .i64 (x.toNat : Nat), .nilIface]) ∧ Hid (ReadAt w' r b m.length (p + 1)) ∧ Hid (W.grownBy w' (some r))) := fun W p x q h1 h2 => by
    obtain ⟨h3, h4, h5⟩ := drop_one h2
    have h6 := take_any r b m p 1 W h1 hm hml h5 (by omega)
    rw [h4] at h6
    exact h6
  have Hd := Lib.hid hd
  have Hr := Lib.hid hr
  generalize m.length = n at HT Hr ⊢
  clear hm hd hr hml
  have hli : (l : Int) ≤ 15 := by omega
  go_enter Tryd.func44, Tryd.ntmps44
  go_wp2_with fail
  go_loopw [1, 6] (fun nv wv wr => ∃ (c p : Nat) (y : Int), nv = .int .i64 (c : Nat) ∧ c ≤ 15 ∧ wv = .int .i64 y ∧ Hid ((c < l → y = 0 ∨ y = 1) ∧ (l < c → y = 0 ∨ y = -1)) ∧ Hid (m.drop p = steps c l ++ false :: rest) ∧ Hid (ReadAt wr r b n p) ∧ Hid (p + 2 * (l - c + (c - l)) = a + 2 * (l - now + (now - l))) ∧ Hid (w.grownBy wr (some r))) (fun nv _ _ => (l - (intOf nv).toNat) + ((intOf nv).toNat - l))
  case atStart => exact ⟨now, a, 0, rfl, hnow, rfl, ⟨fun _ => .inl rfl, fun _ => .inl rfl⟩, Hd, Hr, rfl, grown_self _ _⟩
  case round =>
    clear Hd Hr hnow
    obtain ⟨c, p, y, rfl, hc, rfl, Hy, Hd, Hr, Hp, Hg⟩ := hrel
    rcases Nat.lt_trichotomy c l with hlt | heq | hgt
    · have hdd := Hd.out
      rw [steps_up hlt] at hdd
      have hd2 := (drop_one hdd).1
      have hd3 := (drop_one hd2).1
      have HT1 := Lib.hid (HT.out wr p true _ Hr.out hdd)
      have HT2 := Lib.hid (fun (W : World) (h : ReadAt W r b n (p + 1)) => HT.out W (p + 1) false _ h hd2)
      have Hd3 := Lib.hid hd3
      have hy := Hy.out.1 hlt
      have hyn : (y == -1) = false := by rcases hy with rfl | rfl <;> rfl
      have hyn2 : ¬ y = -1 := by rcases hy with rfl | rfl <;> decide
      have hci : (c : Int) + 1 ≤ 15 := by omega
      clear hdd hd2 hd3 hy
      go_wp2_with fail
      with_reducible refine HT1.out.mono ?_
      rintro e w1 ⟨rfl, hr1, hg1⟩
      simp only []
      go_wp2_with fail
      with_reducible refine (HT2.out w1 hr1.out).mono ?_
      rintro e w2 ⟨rfl, hr2, hg2⟩
      simp only []
      go_wp2_with fail
      refine ⟨⟨c + 1, p + 2, 1, by rw [Int.natCast_add]; rfl, by omega, rfl, ⟨fun _ => .inr rfl, fun h => by omega⟩, Hd3.out, hr2, ?_, grown_trans Hg.out (grown_trans hg1.out hg2.out)⟩, by simp [intOf]; omega⟩
      have := Hp.out
      show _ = _
      omega
    · subst heq
      have hdd := Hd.out
      rw [steps_none, List.nil_append] at hdd
      have HT1 := Lib.hid (HT.out wr p false _ Hr.out hdd)
      have hpe := Hp.out
      have hpp : p + 1 = a + (1 + 2 * (c - now + (now - c))) := by omega
      have Hpp := Lib.hid hpp
      clear hdd hpe hpp
      go_wp2_with fail
      with_reducible refine HT1.out.mono ?_
      rintro e w1 ⟨rfl, hr1, hg1⟩
      simp only []
      go_wp2_with fail
      go_ret2
      refine ⟨rfl, ?_, grown_trans Hg.out hg1.out⟩
      rw [← Hpp.out]
      exact hr1
    · have hdd := Hd.out
      rw [steps_down hgt] at hdd
      have hd2 := (drop_one hdd).1
      have hd3 := (drop_one hd2).1
      have HT1 := Lib.hid (HT.out wr p true _ Hr.out hdd)
      have HT2 := Lib.hid (fun (W : World) (h : ReadAt W r b n (p + 1)) => HT.out W (p + 1) true _ h hd2)
      have Hd3 := Lib.hid hd3
      have hy := Hy.out.2 hgt
      have hyn : (y == 1) = false := by rcases hy with rfl | rfl <;> rfl
      have hyn2 : ¬ y = 1 := by rcases hy with rfl | rfl <;> decide
      have hci : (1 : Int) ≤ (c : Int) := by omega
      have hci2 : (c : Int) ≤ 15 := by omega
      clear hdd hd2 hd3 hy
      go_wp2_with fail
      with_reducible refine HT1.out.mono ?_
      rintro e w1 ⟨rfl, hr1, hg1⟩
      simp only []
      go_wp2_with fail
      with_reducible refine (HT2.out w1 hr1.out).mono ?_
      rintro e w2 ⟨rfl, hr2, hg2⟩
      simp only []
      go_wp2_with fail
      refine ⟨⟨c - 1, p + 2, -1, by congr 1; omega, by omega, rfl, ⟨fun h => by omega, fun _ => .inr rfl⟩, Hd3.out, hr2, ?_, grown_trans Hg.out (grown_trans hg1.out hg2.out)⟩, by simp [intOf]; omega⟩
      have := Hp.out
      show _ = _
      omega
end Go.Proofs.YtidmmcgnghdfdaaDoor
