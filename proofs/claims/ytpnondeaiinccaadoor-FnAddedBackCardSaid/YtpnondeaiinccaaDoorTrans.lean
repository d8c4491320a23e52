/- Walks of OnTranscript of the program and of the reference. -/
import Derived.Test.YtpnondeaiinccaaDoorLeft
import Derived.Test.YtpnondeaiinccaaDoorWritten
namespace Go.Proofs.YtpnondeaiinccaaDoor
open Go.RowKit
set_option linter.unusedVariables false
set_option maxRecDepth 100000
def transB (cs : List Col) : Bool := decide (1 ≤ cs.length) && decide (cs.length ≤ 9) && cs.all singleB
def transT (g : Col → Int) (cs : List Col) : ByteArray := if transB cs = true then decS (val (digs g cs)) else ⟨#[]⟩
def transE (cs : List Col) : Ending := .returned (.tuple #[.string (transT Col.a cs), .string (transT Col.b cs), .bool (transB cs)])
theorem transB_iff {cs : List Col} : transB cs = true ↔ (1 ≤ cs.length ∧ cs.length ≤ 9) ∧ ∀ c ∈ cs, singleB c = true := by simp [transB]
theorem transE_no {cs : List Col} (h : transB cs = false) : Ending.returned (.tuple #[.string ⟨#[]⟩, .string ⟨#[]⟩, .bool false]) = transE cs := by unfold transE transT; rw [h]; rfl
theorem transE_ok {cs : List Col} (h : transB cs = true) : Ending.returned (.tuple #[.string (decS (val (digs Col.a cs))), .string (decS (val (digs Col.b cs))), .bool true]) = transE cs := by unfold transE transT; rw [h]; rfl
theorem transB_len {cs : List Col} (h : ¬ (1 ≤ cs.length ∧ cs.length ≤ 9)) : transB cs = false := by
  cases hb : transB cs with
  | false => rfl
  | true => exact absurd (transB_iff.1 hb).1 h
theorem transB_bad {cs : List Col} {k : Nat} {c : Col} (hk : cs[k]? = some c) (h : singleB c = false) : transB cs = false := by
  cases hb : transB cs with
  | false => rfl
  | true => have := (transB_iff.1 hb).2 c (List.mem_of_getElem? hk); rw [h] at this; cases this
theorem all_to {cs : List Col} (h : ∀ k c, k < cs.length → cs[k]? = some c → singleB c = true) : ∀ c ∈ cs, singleB c = true := by
  intro c hc
  obtain ⟨k, hk⟩ := List.getElem?_of_mem hc
  exact h k c (List.getElem?_eq_some_iff.1 hk).1 hk
set_option maxHeartbeats 400000 in
theorem i_notSingle (c : Col) (w : World) : Calls Tryd.prog 69 #[.agg #[.int .i64 c.a, .int .i64 c.b, .int .i64 c.i, .int .i64 c.d, .int .i64 c.o]] w fun e w' => e = .returned (.bool (!singleB c)) ∧ Below w.heap.size w w' := by
  go_enter Tryd.func69, Tryd.ntmps69
  go_wp2_with (go_at_call 70; refine (i_single c _).mono ?_; rintro e w1 ⟨rfl, hb1⟩)
  go_ret
  exact ⟨rfl, ((Below.refl _ _).alloc (Nat.le_refl _) _).trans (hb1.mono (by simp))⟩
set_option maxHeartbeats 400000 in
theorem i_colA (c : Col) (w : World) : Calls Tryd.prog 71 #[.agg #[.int .i64 c.a, .int .i64 c.b, .int .i64 c.i, .int .i64 c.d, .int .i64 c.o]] w fun e w' => e = .returned (.int .i64 c.a) ∧ Below w.heap.size w w' := by
  go_enter Tryd.func71, Tryd.ntmps71
  go_wp2
  go_ret
  exact ⟨rfl, (Below.refl _ _).alloc (Nat.le_refl _) _⟩
set_option maxHeartbeats 400000 in
theorem i_colB (c : Col) (w : World) : Calls Tryd.prog 72 #[.agg #[.int .i64 c.a, .int .i64 c.b, .int .i64 c.i, .int .i64 c.d, .int .i64 c.o]] w fun e w' => e = .returned (.int .i64 c.b) ∧ Below w.heap.size w w' := by
  go_enter Tryd.func72, Tryd.ntmps72
  go_wp2
  go_ret
  exact ⟨rfl, (Below.refl _ _).alloc (Nat.le_refl _) _⟩
theorem i_numbersA (v : Value) (cs : List Col) (w : World) (hv : Cols w w.heap.size v cs) (hl : cs.length ≤ 1048576) :
    Calls Tryd.prog 63 #[v, .func (.func 71) #[] #[]] w fun e w' => ∃ u, e = .returned u ∧ w'.ownsRow w.heap.size 3 1 u (revN Col.a cs).length ((revN Col.a cs).map (Value.int .i64)) ∧ Below w.heap.size w w' :=
  numbers_of _ Col.a (enters_of Tryd.func71 (by kernel_rfl) rfl) i_colA v cs w hv hl
theorem i_numbersB (v : Value) (cs : List Col) (w : World) (hv : Cols w w.heap.size v cs) (hl : cs.length ≤ 1048576) :
    Calls Tryd.prog 63 #[v, .func (.func 72) #[] #[]] w fun e w' => ∃ u, e = .returned u ∧ w'.ownsRow w.heap.size 3 1 u (revN Col.b cs).length ((revN Col.b cs).map (Value.int .i64)) ∧ Below w.heap.size w w' :=
  numbers_of _ Col.b (enters_of Tryd.func72 (by kernel_rfl) rfl) i_colB v cs w hv hl
def firstBad : Nat → List Col → Int
  | _, [] => -1
  | k, c :: cs => if singleB c = true then firstBad (k + 1) cs else (k : Int)
theorem firstBad_at {cs : List Col} : ∀ k, k ≤ cs.length → (∀ j c, j < k → cs[j]? = some c → singleB c = true) → firstBad 0 cs = firstBad k (cs.drop k) := by
  intro k
  induction k with
  | zero => intro _ _; rfl
  | succ k ih =>
    intro hk h
    obtain ⟨c, hc⟩ : ∃ c, cs[k]? = some c := ⟨_, List.getElem?_eq_getElem hk⟩
    have e : cs.drop k = c :: cs.drop (k + 1) := by
      rw [List.drop_eq_getElem_cons hk]
      congr 1
      exact Option.some.inj ((List.getElem?_eq_getElem hk).symm.trans hc)
    rw [ih (by omega) (fun j c hj => h j c (by omega)), e, firstBad, if_pos (h k c (by omega) hc)]
set_option maxHeartbeats 1600000 in
theorem i_indexFunc (v : Value) (cs : List Col) (w : World) (hv : Cols w w.heap.size v cs) (hl : cs.length ≤ 1048576) :
    Calls Tryd.prog 96 #[v, .func (.func 69) #[] #[]] w fun e w' => e = .returned (.int .i64 (firstBad 0 cs)) ∧ Below w.heap.size w w' := by
  obtain ⟨A, cap, rfl, hc⟩ := hv
  have HC := Lib.hid hc
  have he : ∀ args w, (callFunc 69 args).run Tryd.prog w = .ok (.enter 69 args) w := enters_of Tryd.func69 (by kernel_rfl) rfl
  clear hc
  go_enter Tryd.func96, Tryd.ntmps96
  go_wp2
  go_loopw [5, 8] (fun _ i wr => ∃ k : Nat, k ≤ cs.length ∧ i = .int .i64 k ∧ (∀ j c, j < k → cs[j]? = some c → singleB c = true) ∧ Below w.heap.size w wr) (fun _ i _ => cs.length - (intOf i).toNat)
  case atStart => exact ⟨0, Nat.zero_le _, rfl, fun j _ hj => absurd hj (by omega), Below.refl _ _⟩
  case round =>
    obtain ⟨k, hk, rfl, hall, hb⟩ := hrel
    have HA := Lib.hid hall
    clear hall
    by_cases hlt : k < cs.length
    · obtain ⟨g, rfl, hg, hcell⟩ := HC.out (fun e => by rw [e] at hlt; simp at hlt)
      obtain ⟨c, hck⟩ : ∃ c, cs[k]? = some c := ⟨_, List.getElem?_eq_getElem hlt⟩
      obtain ⟨h0, h1, h2, h3, h4⟩ := (hcell k c hck).below hg hb
      have HCK := Lib.hid hck
      have HF := Lib.hid (firstBad_at k hk HA.out)
      clear hcell hck
      by_cases hsb : singleB c = true
      · have HSB := Lib.hid hsb
        have t1 : (!singleB c) = false := by simp [hsb]
        clear hsb
        go_wp2_with (go_at_call 69; refine (i_notSingle c _).mono ?_; rintro e w1 ⟨rfl, hb1⟩)
        go_roundw
        case rel =>
          refine ⟨k + 1, by omega, by go_num, fun j c' hj hc' => ?_, hb.trans (hb1.mono hb.size)⟩
          by_cases e : j = k
          · subst e
            obtain rfl := Option.some.inj (HCK.out.symm.trans hc')
            exact HSB.out
          · exact HA.out j c' (by omega) hc'
        case measure => simp [intOf]; omega
      · have hsb' := ne_true hsb
        have t1 : (!singleB c) = true := by simp [hsb']
        have H := Lib.hid (show firstBad 0 cs = (k : Int) by
          have e : cs.drop k = c :: cs.drop (k + 1) := by
            rw [List.drop_eq_getElem_cons hlt]
            congr 1
            exact Option.some.inj ((List.getElem?_eq_getElem hlt).symm.trans HCK.out)
          rw [HF.out, e, firstBad, if_neg hsb])
        clear hsb hsb'
        go_wp2_with (go_at_call 69; refine (i_notSingle c _).mono ?_; rintro e w1 ⟨rfl, hb1⟩)
        go_ret
        exact ⟨ret_int H.out.symm, hb.trans (hb1.mono hb.size)⟩
    · obtain rfl : k = cs.length := by omega
      have H := Lib.hid (show firstBad 0 cs = -1 by rw [firstBad_at _ (Nat.le_refl _) HA.out, List.drop_length]; rfl)
      go_wp2
      go_ret
      exact ⟨ret_int H.out.symm, hb⟩
theorem firstBad_iff : ∀ (cs : List Col) (k : Nat), (firstBad k cs = -1 ∧ ∀ c ∈ cs, singleB c = true) ∨ (0 ≤ firstBad k cs ∧ ¬ ∀ c ∈ cs, singleB c = true)
  | [], k => .inl ⟨rfl, by simp⟩
  | c :: cs, k => by
    by_cases h : singleB c = true
    · rcases firstBad_iff cs (k + 1) with ⟨h1, h2⟩ | ⟨h1, h2⟩
      · refine .inl ⟨by rw [firstBad, if_pos h, h1], fun d hd => ?_⟩
        rcases List.mem_cons.1 hd with rfl | hd
        · exact h
        · exact h2 d hd
      · exact .inr ⟨by rw [firstBad, if_pos h]; exact h1, fun hc => h2 fun d hd => hc d (List.mem_cons_of_mem _ hd)⟩
    · exact .inr ⟨by rw [firstBad, if_neg h]; omega, fun hc => h (hc c (by simp))⟩
set_option maxHeartbeats 800000 in
theorem i_containsFunc (v : Value) (cs : List Col) (w : World) (hv : Cols w w.heap.size v cs) (hl : cs.length ≤ 1048576) :
    Calls Tryd.prog 68 #[v, .func (.func 69) #[] #[]] w fun e w' => e = .returned (.bool (decide (0 ≤ firstBad 0 cs))) ∧ Below w.heap.size w w' := by
  go_enter Tryd.func68, Tryd.ntmps68
  go_wp2_with (go_at_call 96; refine (i_indexFunc _ cs _ hv hl).mono ?_; rintro e w1 ⟨rfl, hb1⟩)
  go_ret
  exact ⟨rfl, hb1⟩
set_option maxHeartbeats 1600000 in
theorem i_onTranscript (v : Value) (cs : List Col) (w : World) (hv : Cols w w.heap.size v cs) (hl : cs.length ≤ 1048576) :
    Calls Tryd.prog 26 #[v] w fun e w' => e = transE cs ∧ Below w.heap.size w w' := by
  obtain ⟨A, cap, rfl, hc⟩ := id hv
  by_cases hlen : 1 ≤ cs.length ∧ cs.length ≤ 9
  · have ti : inB (cs.length : Int) 1 9 = true := inB_iff.2 (by omega)
    rcases firstBad_iff cs 0 with ⟨hf, hall⟩ | ⟨hf, hall⟩
    · have hB : transB cs = true := transB_iff.2 ⟨hlen, hall⟩
      have H := Lib.hid (transE_ok hB)
      have tf : decide (0 ≤ firstBad 0 cs) = false := by rw [hf]; rfl
      have hne : cs ≠ [] := fun e => by rw [e] at hlen; simp at hlen
      have hA := (single_allD hall).1
      have hBB := (single_allD hall).2.1
      have HA := Lib.hid (plainO_digs hne (digs_lt hA hlen.2))
      have HB := Lib.hid (plainO_digs hne (digs_lt hBB hlen.2))
      have DA := Lib.hid (Dig_rev hA)
      have DB := Lib.hid (Dig_rev hBB)
      have HV := Lib.hid hv
      have l1000 : cs.length ≤ 1000 := by omega
      clear hf hall hB hne hA hBB hv hc hlen
      go_enter Tryd.func26, Tryd.ntmps26
      go_wp2_with (first | (go_at_call 67; refine (i_in _ _ _ _).mono ?_; rintro e w' ⟨rfl, rfl⟩) | (go_at_call 68; refine (i_containsFunc _ cs _ HV.out hl).mono ?_; rintro e w1 ⟨rfl, hb1⟩))
      refine (i_numbersA _ cs _ (cols_more HV.out hb1) hl).mono ?_
      rintro e w2 ⟨u, rfl, hu, hb2⟩
      have hb2' := hb1.trans (hb2.mono hb1.size)
      have HU := Lib.hid (Ints.of_own hu)
      clear hu hb2
      go_wp2_with fail
      refine (i_plain2 u _ _ HU.out (by rw [revN_length]; omega) DA.out).mono ?_
      rintro e w3 ⟨he, hb3⟩
      rw [HA.out] at he
      obtain rfl : e = .returned (.tuple #[.string (decS (val (digs Col.a cs))), .bool true]) := he
      have hb3' := hb2'.trans (hb3.mono hb2'.size)
      clear hb3 hb2'
      go_wp2_with fail
      refine (i_numbersB _ cs _ (cols_more HV.out hb3') hl).mono ?_
      rintro e w4 ⟨u2, rfl, hu, hb4⟩
      have hb4' := hb3'.trans (hb4.mono hb3'.size)
      have HU2 := Lib.hid (Ints.of_own hu)
      clear hu hb4
      go_wp2_with fail
      refine (i_plain2 u2 _ _ HU2.out (by rw [revN_length]; omega) DB.out).mono ?_
      rintro e w5 ⟨he, hb5⟩
      rw [HB.out] at he
      obtain rfl : e = .returned (.tuple #[.string (decS (val (digs Col.b cs))), .bool true]) := he
      have hb5' := hb4'.trans (hb5.mono hb4'.size)
      go_wp2_with fail
      go_ret3
      exact ⟨H.out, hb5'⟩
    · have hB : transB cs = false := by
        cases hb : transB cs with
        | false => rfl
        | true => exact absurd (transB_iff.1 hb).2 hall
      have H := Lib.hid (transE_no hB)
      have tf : decide (0 ≤ firstBad 0 cs) = true := by simp [hf]
      clear hf hall hB hlen
      go_enter Tryd.func26, Tryd.ntmps26
      go_wp2_with (first | (go_at_call 67; refine (i_in _ _ _ _).mono ?_; rintro e w' ⟨rfl, rfl⟩) | (go_at_call 68; refine (i_containsFunc _ cs _ hv hl).mono ?_; rintro e w1 ⟨rfl, hb1⟩))
      go_ret3
      exact ⟨H.out, hb1⟩
  · have ti : inB (cs.length : Int) 1 9 = false := inB_no (by omega)
    have H := Lib.hid (transE_no (transB_len hlen))
    clear hlen
    go_enter Tryd.func26, Tryd.ntmps26
    go_wp2_with (go_at_call 67; refine (i_in _ _ _ _).mono ?_; rintro e w' ⟨rfl, rfl⟩)
    go_ret3
    exact ⟨H.out, Below.refl _ _⟩
end Go.Proofs.YtpnondeaiinccaaDoor
