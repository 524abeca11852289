/- The library's stable sort of ints by a comparison: a permutation, sorted. -/
import Derived.Test.YtidmmcgnghdfdaaDoorSort4
namespace Go.Proofs.YtidmmcgnghdfdaaDoor
open Go.RowKit SortPlain
set_option linter.unusedVariables false

theorem flat_length {bs : Nat} : ∀ {Ls : List (List Nat)}, (∀ c ∈ Ls, c.length = bs) → Ls.flatten.length = bs * Ls.length
  | [], _ => by simp
  | c :: Ls, h => by
    rw [List.flatten_cons, List.length_append, h c (by simp), flat_length (fun d hd => h d (by simp [hd])), List.length_cons, Nat.mul_succ]
    omega
/-- sorted blocks, one behind the other, and a shorter last one -/
def Blocks (key : Nat → Nat) (bs : Nat) (Ls : List (List Nat)) : Prop := ∀ c ∈ Ls, c.length = bs ∧ Srt key c
theorem Blocks.nil (key : Nat → Nat) (bs : Nat) : Blocks key bs [] := fun c hc => by cases hc
theorem Blocks.snoc {key : Nat → Nat} {bs : Nat} {Ls : List (List Nat)} {c : List Nat} (h : Blocks key bs Ls) (h1 : c.length = bs) (h2 : Srt key c) : Blocks key bs (Ls ++ [c]) := fun d hd => by
  rcases List.mem_append.1 hd with hd | hd
  · exact h d hd
  · rw [List.mem_singleton.1 hd]; exact ⟨h1, h2⟩
theorem Blocks.len {key : Nat → Nat} {bs : Nat} {Ls : List (List Nat)} (h : Blocks key bs Ls) : Ls.flatten.length = bs * Ls.length := flat_length fun c hc => (h c hc).1
theorem flatten_snoc (Ls : List (List Nat)) (c : List Nat) : (Ls ++ [c]).flatten = Ls.flatten ++ c := by simp

set_option maxRecDepth 100000 in
set_option maxHeartbeats 16000000 in
theorem stable_any (g N cap : Nat) (rest : List Value) (f : FuncId) (hf : f = 37) (cv : Value) (dom : Nat → Prop) (key : Nat → Nat) (w : World) (hC : CmpOK w g f cv dom key) (hN2 : N ≤ 4096) (hNc : N ≤ cap) (Z : List Nat) (hZ : Z.length = N) (hdom : ∀ z ∈ Z, dom z) (h : RowI w g Z rest) :
    Calls Tryd.prog 49 #[.slice (some ⟨g, 0, none⟩) N cap, .int .i64 (N : Nat), .func (.func f) #[] #[cv]] w fun e w' => e = .returned (.tuple #[]) ∧ ∃ Z', RowI w' g Z' rest ∧ Z'.Perm Z ∧ Srt key Z' ∧ Hid (w.grownBy w' (some g)) := by
  have HC := Lib.hid hC
  have Hdom := Lib.hid hdom
  have HZ := Lib.hid hZ
  have H := Lib.hid h
  have Hins : Hid (∀ (W : World) (P A Q : List Nat) (a b : Nat), w.grownBy W (some g) → (P ++ A ++ Q).Perm Z → a = P.length → b = a + A.length → RowI W g (P ++ A ++ Q) rest →
      Calls Tryd.prog 54 #[.slice (some ⟨g, 0, none⟩) N cap, .int .i64 (a : Nat), .int .i64 (b : Nat), .func (.func f) #[] #[cv]] W fun e w' => e = .returned (.tuple #[]) ∧ ∃ A', RowI w' g (P ++ A' ++ Q) rest ∧ A'.Perm A ∧ Srt key A' ∧ Hid (W.grownBy w' (some g))) := fun W P A Q a b hg hp ha hb hr =>
    insertion_any g N cap rest P A Q a b f hf cv dom key w W hC hg (fun z hz => hdom z (hp.mem_iff.1 (by simp [hz]))) ha hb (by have := hp.length_eq; rw [List.length_append, List.length_append] at this; omega) hN2 hNc hr
  have Hsym : Hid (∀ (W : World) (P A B Q : List Nat) (a m b : Nat), w.grownBy W (some g) → (P ++ A ++ B ++ Q).Perm Z → 0 < A.length → 0 < B.length → Srt key A → Srt key B → a = P.length → m = a + A.length → b = m + B.length → RowI W g (P ++ A ++ B ++ Q) rest →
      Calls Tryd.prog 55 #[.slice (some ⟨g, 0, none⟩) N cap, .int .i64 (a : Nat), .int .i64 (m : Nat), .int .i64 (b : Nat), .func (.func f) #[] #[cv]] W fun e w' => e = .returned (.tuple #[]) ∧ ∃ C, RowI w' g (P ++ C ++ Q) rest ∧ C.Perm (A ++ B) ∧ Srt key C ∧ Hid (W.grownBy w' (some g))) := fun W P A B Q a m b hg hp hA hB hsA hsB ha hm hb hr =>
    sym_any g N cap rest f hf cv dom key w hC hN2 hNc _ P A B Q a m b W (Nat.le_refl _) hA hB hg (fun z hz => hdom z (hp.mem_iff.1 (by simp [hz]))) (fun z hz => hdom z (hp.mem_iff.1 (by simp [hz]))) hsA hsB ha hm hb (by have := hp.length_eq; rw [List.length_append, List.length_append, List.length_append] at this; omega) hr
  subst hf
  clear hC hdom hZ h
  go_enter Tryd.func49, Tryd.ntmps49
  go_wp2_with fail
  go_loopw [7, 8] (fun av bv wr => ∃ (a b : Nat) (Ls : List (List Nat)) (R : List Nat), av = .int .i64 (a : Nat) ∧ bv = .int .i64 (b : Nat) ∧ a ≤ N ∧ b ≤ N + 20 ∧ Hid (b = a + 20 ∧ a = Ls.flatten.length ∧ (Ls.flatten ++ R).Perm Z ∧ Blocks key 20 Ls) ∧ Hid (RowI wr g (Ls.flatten ++ R) rest) ∧ Hid (w.grownBy wr (some g))) (fun av _ _ => N - (intOf av).toNat)
  case atStart => exact ⟨0, 20, [], Z, rfl, rfl, Nat.zero_le _, by omega, ⟨rfl, rfl, by simp, Blocks.nil _ _⟩, H.out, grown_self _ _⟩
  case round =>
    clear H
    obtain ⟨a, b, Ls, R, rfl, rfl, haN, hbN, hs, hr, hg⟩ := hrel
    have hRl : R.length + a = N := by have h1 := hs.out.2.2.1.length_eq; have h2 := hs.out.2.1; have := HZ.out; rw [List.length_append] at h1; omega
    have HRl := Lib.hid hRl
    by_cases hle : b ≤ N
    · have hR20 : 20 ≤ R.length := by have := hs.out.1; omega
      have eR : R.take 20 ++ R.drop 20 = R := List.take_append_drop _ _
      have hI := Lib.hid (Hins.out wr Ls.flatten (R.take 20) (R.drop 20) a b hg.out (by rw [List.append_assoc, eR]; exact hs.out.2.2.1) hs.out.2.1 (by rw [List.length_take]; have := hs.out.1; omega) (by rw [List.append_assoc, eR]; exact hr.out))
      have HR20 := Lib.hid hR20
      have HeR := Lib.hid eR
      have hba : b ≤ N := hle
      clear hRl hR20 eR
      go_wp2_with (first
        | (go_at_call 54; refine hI.out.mono ?_; rintro e w1 ⟨rfl, A', hr1, hp1, hs1, hg1⟩; have Hr1 := Lib.hid hr1; have Hp1 := Lib.hid hp1; have Hs1 := Lib.hid hs1; clear hr1 hp1 hs1)
        | fail)
      have hl1 : A'.length = 20 := by rw [Hp1.out.length_eq, List.length_take]; have := HR20.out; omega
      refine ⟨⟨b, b + 20, Ls ++ [A'], R.drop 20, rfl, by rw [Int.natCast_add]; rfl, hba, by omega, ⟨rfl, ?_, ?_, hs.out.2.2.2.snoc hl1 Hs1.out⟩, ?_, grown_trans hg.out hg1.out⟩, ?_⟩
      · rw [flatten_snoc, List.length_append, hl1, ← hs.out.2.1]; exact hs.out.1
      · rw [flatten_snoc, List.append_assoc]
        refine List.Perm.trans (List.Perm.append_left _ ?_) hs.out.2.2.1
        conv => rhs; rw [← HeR.out]
        exact List.Perm.append_right _ Hp1.out
      · show RowI _ _ _ _
        rw [flatten_snoc]; exact Hr1.out
      · simp [intOf]; have := hs.out.1; omega
    · have hI := Lib.hid (Hins.out wr Ls.flatten R [] a N hg.out (by rw [List.append_nil]; exact hs.out.2.2.1) hs.out.2.1 (by omega) (by rw [List.append_nil]; exact hr.out))
      have hR20 : R.length < 20 := by have := hs.out.1; omega
      have HR20 := Lib.hid hR20
      clear hRl hR20
      go_wp2_with (first
        | (go_at_call 54; refine hI.out.mono ?_; rintro e w1 ⟨rfl, A', hr1, hp1, hs1, hg1⟩; have Hr1 := Lib.hid hr1; have Hp1 := Lib.hid hp1; have Hs1 := Lib.hid hs1; have HG1 := Lib.hid (grown_trans hg.out hg1.out); clear hr1 hp1 hs1 hg1)
        | fail)
      have HS0 : Hid (∃ Ls last, RowI w1 g (Ls.flatten ++ last) rest ∧ (Ls.flatten ++ last).Perm Z ∧ Blocks key 20 Ls ∧ last.length < 20 ∧ Srt key last) :=
        ⟨Ls, A', by have := Hr1.out; rwa [List.append_nil] at this, (List.Perm.append_left _ Hp1.out).trans hs.out.2.2.1, hs.out.2.2.2, by rw [Hp1.out.length_eq]; exact HR20.out, Hs1.out⟩
      clear Hr1 Hp1 Hs1 HR20 hI HRl hs hr hle Hins
      go_loopw [6] (fun sv wr => ∃ (bs : Nat), sv = .int .i64 (bs : Nat) ∧ 0 < bs ∧ bs ≤ 8192 ∧ Hid (∃ Ls last, RowI wr g (Ls.flatten ++ last) rest ∧ (Ls.flatten ++ last).Perm Z ∧ Blocks key bs Ls ∧ last.length < bs ∧ Srt key last) ∧ Hid (w.grownBy wr (some g))) (fun sv _ => N - (intOf sv).toNat)
      case atStart => exact ⟨20, rfl, by omega, by omega, HS0, HG1⟩
      case round =>
        clear HS0 HG1
        obtain ⟨bs, rfl, hbs0, hbs1, hst, hg2⟩ := hrel
        by_cases hbn : bs < N
        · have hbs2 : bs ≤ 4096 := by omega
          go_wp2_with fail
          obtain ⟨wo, hwo⟩ : ∃ wo : World, wo = wr := ⟨_, rfl⟩
          subst hwo
          go_loopw [7, 8] (fun av bv wr => ∃ (a b : Nat) (Ms Ls : List (List Nat)) (last : List Nat), av = .int .i64 (a : Nat) ∧ bv = .int .i64 (b : Nat) ∧ a ≤ N ∧ b ≤ N + 8192 ∧ Hid (b = a + 2 * bs ∧ a = Ms.flatten.length ∧ (Ms.flatten ++ (Ls.flatten ++ last)).Perm Z ∧ Blocks key (2 * bs) Ms ∧ Blocks key bs Ls ∧ last.length < bs ∧ Srt key last) ∧ Hid (RowI wr g (Ms.flatten ++ (Ls.flatten ++ last)) rest) ∧ Hid (w.grownBy wr (some g))) (fun av _ _ => N - (intOf av).toNat)
          case atStart =>
            obtain ⟨Ls, last, h1, h2, h3, h4, h5⟩ := hst.out
            exact ⟨0, 2 * bs, [], Ls, last, rfl, by rw [Int.natCast_mul]; rfl, Nat.zero_le _, by omega, ⟨by omega, rfl, by simpa using h2, Blocks.nil _ _, h3, h4, h5⟩, by show RowI _ _ _ _; simpa using h1, hg2⟩
          case round =>
            clear hst
            obtain ⟨a, b, Ms, Ls, last, rfl, rfl, haN, hbN2, hs, hr, hg3⟩ := hrel
            have hlen : bs * Ls.length + last.length + a = N := by
              have h1 := hs.out.2.2.1.length_eq
              rw [List.length_append, List.length_append, hs.out.2.2.2.2.1.len, HZ.out, ← hs.out.2.1] at h1
              omega
            by_cases hle : b ≤ N
            · obtain ⟨c, d, Ls', hLs⟩ : ∃ c d Ls', Ls = c :: d :: Ls' := by
                have hb := hs.out.1
                have hla := hs.out.2.2.2.2.2.1
                match Ls, hlen with
                | [], hlen => simp at hlen; omega
                | [c], hlen => simp at hlen; omega
                | c :: d :: Ls, _ => exact ⟨c, d, Ls, rfl⟩
              subst hLs
              have hc := hs.out.2.2.2.2.1 c (by simp)
              have hd := hs.out.2.2.2.2.1 d (by simp)
              have eZ : Ms.flatten ++ c ++ d ++ (Ls'.flatten ++ last) = Ms.flatten ++ ((c :: d :: Ls').flatten ++ last) := by simp
              obtain ⟨m, hm⟩ : ∃ m, m = a + bs := ⟨_, rfl⟩
              have k1 : (a : Int) + (bs : Int) = (m : Int) := by omega
              have hmN : m ≤ N := by have := hs.out.1; omega
              have hI := Lib.hid (Hsym.out wr Ms.flatten c d (Ls'.flatten ++ last) a m b hg3.out (by rw [eZ]; exact hs.out.2.2.1) (by omega) (by omega) hc.2 hd.2 hs.out.2.1 (by omega) (by have := hs.out.1; omega) (rowI_eq hr.out eZ.symm))
              have Hcd : Hid (c.length = bs ∧ d.length = bs) := ⟨hc.1, hd.1⟩
              have HeZ := Lib.hid eZ
              clear hlen hc hd eZ hm
              go_wp2_with (first
                | (go_at_call 55; refine hI.out.mono ?_; rintro e w1 ⟨rfl, C, hr1, hp1, hs1, hg1⟩; have Hr1 := Lib.hid hr1; have Hp1 := Lib.hid hp1; have Hs1 := Lib.hid hs1; have HG1 := Lib.hid (grown_trans hg3.out hg1.out); clear hr1 hp1 hs1 hg1)
                | fail)
              have hl1 : C.length = 2 * bs := by rw [Hp1.out.length_eq, List.length_append]; have := Hcd.out; omega
              refine ⟨⟨b, b + 2 * bs, Ms ++ [C], Ls', last, rfl, by rw [Int.natCast_add, Int.natCast_mul]; rfl, hle, by omega, ⟨rfl, ?_, ?_, hs.out.2.2.2.1.snoc hl1 Hs1.out, fun z hz => hs.out.2.2.2.2.1 z (by simp [hz]), hs.out.2.2.2.2.2⟩, ?_, HG1.out⟩, ?_⟩
              · rw [flatten_snoc, List.length_append, hl1, ← hs.out.2.1]; exact hs.out.1
              · rw [flatten_snoc, List.append_assoc]
                refine List.Perm.trans ?_ hs.out.2.2.1
                rw [← HeZ.out]
                have := List.Perm.append_left Ms.flatten (List.Perm.append_right (Ls'.flatten ++ last) Hp1.out)
                simpa only [List.append_assoc] using this
              · show RowI _ _ _ _
                rw [flatten_snoc]; exact Hr1.out
              · simp [intOf]; have := hs.out.1; omega
            · obtain ⟨m, hm⟩ : ∃ m, m = a + bs := ⟨_, rfl⟩
              have k1 : (a : Int) + (bs : Int) = (m : Int) := by omega
              by_cases hmN : m < N
              · -- one block, and a last one
                obtain ⟨c, hLs⟩ : ∃ c, Ls = [c] := by
                  have hb := hs.out.1
                  have hla := hs.out.2.2.2.2.2.1
                  match Ls, hlen with
                  | [], hlen => simp at hlen; omega
                  | [c], hlen => exact ⟨c, rfl⟩
                  | c :: d :: Ls, hlen =>
                    exfalso
                    rw [List.length_cons, List.length_cons, Nat.mul_succ, Nat.mul_succ] at hlen
                    have : 0 ≤ bs * Ls.length := Nat.zero_le _
                    omega
                subst hLs
                have hc := hs.out.2.2.2.2.1 c (by simp)
                have eZ : Ms.flatten ++ c ++ last ++ [] = Ms.flatten ++ ([c].flatten ++ last) := by simp
                have hlast : 0 < last.length := by simp at hlen; omega
                have hI := Lib.hid (Hsym.out wr Ms.flatten c last [] a m N hg3.out (by rw [eZ]; exact hs.out.2.2.1) (by omega) hlast hc.2 hs.out.2.2.2.2.2.2 hs.out.2.1 (by omega) (by simp at hlen; omega) (rowI_eq hr.out eZ.symm))
                have Hcl := Lib.hid hc.1
                have HeZ := Lib.hid eZ
                clear hlen hc eZ hm hlast
                go_wp2_with (first
                  | (go_at_call 55; refine hI.out.mono ?_; rintro e w1 ⟨rfl, C, hr1, hp1, hs1, hg1⟩; have Hr1 := Lib.hid hr1; have Hp1 := Lib.hid hp1; have Hs1 := Lib.hid hs1; have HG1 := Lib.hid (grown_trans hg3.out hg1.out); clear hr1 hp1 hs1 hg1)
                  | fail)
                refine ⟨⟨bs * 2, by rw [Int.natCast_mul]; rfl, by omega, by omega, ?_, HG1.out⟩, by simp [intOf]; omega⟩
                refine ⟨Ms, C, by have := Hr1.out; rwa [List.append_nil] at this, ?_, by rw [Nat.mul_comm]; exact hs.out.2.2.2.1, ?_, Hs1.out⟩
                · refine List.Perm.trans ?_ hs.out.2.2.1
                  refine List.Perm.append_left _ ?_
                  have := Hp1.out
                  simpa using this
                · rw [Hp1.out.length_eq, List.length_append]; have := Hcl.out; have := hs.out.2.2.2.2.2.1; omega
              · obtain ⟨l2, hl2⟩ : ∃ l2, l2 = Ls.flatten ++ last := ⟨_, rfl⟩
                have Hl2 : Hid (l2.length < bs * 2 ∧ Srt key l2) := by
                  have hla := hs.out.2.2.2.2.2.1
                  match Ls, hlen, hs.out.2.2.2.2.1, hl2 with
                  | [], hlen, _, hl2 => simp at hl2; subst hl2; exact ⟨by omega, hs.out.2.2.2.2.2.2⟩
                  | [c], hlen, hb, hl2 =>
                    have h0 : last = [] := List.length_eq_zero_iff.1 (by simp at hlen; omega)
                    subst h0
                    simp at hl2
                    subst hl2
                    have := hb l2 (by simp)
                    exact ⟨by omega, this.2⟩
                  | c :: d :: Ls, hlen, _, _ =>
                    exfalso
                    rw [List.length_cons, List.length_cons, Nat.mul_succ, Nat.mul_succ] at hlen
                    have : 0 ≤ bs * Ls.length := Nat.zero_le _
                    omega
                rw [← hl2] at hr hs
                have Hs2 : Hid ((Ms.flatten ++ l2).Perm Z ∧ Blocks key (2 * bs) Ms) := ⟨hs.out.2.2.1, hs.out.2.2.2.1⟩
                clear hlen hs hl2 hm
                go_wp2_with fail
                refine ⟨⟨bs * 2, by rw [Int.natCast_mul]; rfl, by omega, by omega, ?_, hg3.out⟩, by simp [intOf]; omega⟩
                exact ⟨Ms, l2, hr.out, Hs2.out.1, by rw [Nat.mul_comm]; exact Hs2.out.2, Hl2.out.1, Hl2.out.2⟩
        · obtain ⟨Ls, last, h1, h2, h3, h4, h5⟩ := hst.out
          have Hend : Hid (Srt key (Ls.flatten ++ last)) := by
            have hl := h2.length_eq
            rw [List.length_append, h3.len, HZ.out] at hl
            match Ls, h3, hl with
            | [], _, _ => show Srt key _; simpa using h5
            | [c], h3, hl =>
              have h6 := h3 c (by simp)
              have h7 : last = [] := List.length_eq_zero_iff.1 (by simp at hl; omega)
              subst h7
              show Srt key _
              simpa using h6.2
            | c :: d :: Ls, h3, hl =>
              exfalso
              rw [List.length_cons, List.length_cons, Nat.mul_succ, Nat.mul_succ] at hl
              have : 0 ≤ bs * Ls.length := Nat.zero_le _
              omega
          have H1 := Lib.hid h1
          have H2 := Lib.hid h2
          clear h1 h2 h3 h4 h5 hst
          go_wp2_with fail
          go_end0
          exact ⟨rfl, _, H1.out, H2.out, Hend.out, hg2⟩
end Go.Proofs.YtidmmcgnghdfdaaDoor
