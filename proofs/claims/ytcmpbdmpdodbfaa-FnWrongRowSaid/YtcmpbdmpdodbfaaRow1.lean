/- Walks of WrongRow of the program and of the reference. -/
import Derived.Test.YtcmpbdmpdodbfaaRow0
namespace Go.Proofs.Ytcmpbdmpdodbfaa
open Go.RowKit
set_option linter.unusedVariables false
theorem b0Of_eq {cs : List Col} {c : Col} (h : cs[0]? = some c) : b0Of cs = c.b := by
  cases cs with
  | nil => simp at h
  | cons x l => simp at h; subst h; rfl
theorem wRow_out {cs : List Col} (h : ¬ (1 ≤ cs.length ∧ cs.length ≤ 9)) : wRow cs = -2 := by unfold wRow; rw [if_neg h]
theorem wRow_in {cs : List Col} (h : 1 ≤ cs.length ∧ cs.length ≤ 9) : wRow cs = wrong (rRow (b0Of cs)) cs := by unfold wRow; rw [if_pos h]
set_option maxHeartbeats 1600000 in
theorem i_wrong_rRow (cs : List Col) (cap B : Nat) (A : Option Addr) (w : World) (hv : Cols w w.heap.size (.slice A cs.length cap) cs) (h1l : 1 ≤ cs.length) (hl : cs.length ≤ 1048576)
    (hB : B < w.heap.size) (hp : w.cell? ⟨B, 0, none⟩ = some (.slice A cs.length cap)) :
    Calls Try.prog 28 #[.slice A cs.length cap, .func (.func 29) #[] #[.pointer (some ⟨B, 0, none⟩)]] w fun e w' => e = .returned (.int .i64 (wrong (rRow (b0Of cs)) cs)) ∧ Below w.heap.size w w' := by
  obtain ⟨A', cap', hv', hc⟩ := hv
  have hne : cs ≠ [] := by intro e; rw [e] at h1l; simp at h1l
  obtain ⟨g, rfl, hg, hcell⟩ := hc hne
  obtain rfl : A = some ⟨g, 0, none⟩ := by injection hv'
  clear hc hv'
  obtain ⟨c0, hc0⟩ := getElem?_some_of_lt (cs := cs) (k := 0) (by omega)
  have HB0 := Lib.hid (show w.cell? ⟨g, 1, none⟩ = some (.int .i64 (b0Of cs)) by rw [b0Of_eq hc0]; have := (hcell 0 c0 hc0).2.1; simpa using this)
  have HN := Lib.hid hcell
  have hn1 : (0 : Int) < (cs.length : Int) := by omega
  clear hcell hne hc0
  generalize hb0 : b0Of cs = b0 at *
  clear hb0
  go_enter Try.func28, Try.ntmps28
  go_wp2
  go_loopw [5, 10] (fun x i wr => ∃ k : Nat, k ≤ cs.length ∧ i = .int .i64 k ∧ x = .int .i64 (carryAt cs k) ∧ RightTo (rRow b0) cs k ∧ Below w.heap.size w wr) (fun _ i _ => cs.length - (intOf i).toNat)
  case atStart => exact ⟨0, Nat.zero_le _, rfl, rfl, RightTo.zero _ _, Below.refl _ _⟩
  case round =>
    obtain ⟨k, hk, rfl, rfl, hr, hb⟩ := hrel
    have HR := Lib.hid hr
    clear hr
    by_cases hlt : k < cs.length
    · obtain ⟨c, hck⟩ := getElem?_some_of_lt hlt
      have HC := Lib.hid hck
      obtain ⟨h0, h1, h2, h3, h4⟩ := (HN.out k c hck).below hg hb
      have hgr : g < wr.heap.size := Nat.lt_of_lt_of_le hg hb.size
      have hBr : B < wr.heap.size := Nat.lt_of_lt_of_le hB hb.size
      have X1 := Lib.hid (fun o : Obj => (by simp; omega : B < (wr.alloc o).heap.size))
      have X2 := Lib.hid (fun o : Obj => (by simp; omega : g < (wr.alloc o).heap.size))
      have X3 := Lib.hid (fun o : Obj => (World.cell?_alloc_lt wr o ⟨B, 0, none⟩ hBr).trans ((hb.cell (p := ⟨B, 0, none⟩) hB).trans hp))
      have X4 := Lib.hid (fun o : Obj => (World.cell?_alloc_lt wr o ⟨g, 1, none⟩ hgr).trans ((hb.cell (p := ⟨g, 1, none⟩) hg).trans HB0.out))
      clear hck
      by_cases hi : c.i = carryAt cs k
      · have HI := Lib.hid hi
        have ti : (c.i != carryAt cs k) = false := by simp [hi]
        clear hi
        by_cases hrc : rRow b0 c = true
        · have HS := Lib.hid (HR.out.succ HC.out HI.out hrc)
          have HO := Lib.hid (carryAt_succ HC.out)
          go_wp2_with (go_at_call 29; refine (i_rRow c b0 B g cap cs.length _ (X1.out _) (X2.out _) (X3.out _) hn1 (X4.out _)).mono ?_; rintro e w1 ⟨rfl, hb1⟩; obtain ⟨hcc, hff⟩ := bcell hb1)
          go_roundw
          case rel => exact ⟨k + 1, by omega, by go_num, by rw [HO.out], HS.out, hb.trans (((Below.refl _ wr).alloc (Nat.le_refl _) _).trans (hb1.mono (by simp)) |>.mono hb.size)⟩
          case measure => simp [intOf]; omega
        · have hrc' : rRow b0 c = false := by simpa using hrc
          have HW := Lib.hid (wrong_at HR.out HC.out (fun x => hrc x.2))
          clear hrc
          go_wp2_with (go_at_call 29; refine (i_rRow c b0 B g cap cs.length _ (X1.out _) (X2.out _) (X3.out _) hn1 (X4.out _)).mono ?_; rintro e w1 ⟨rfl, hb1⟩; obtain ⟨hcc, hff⟩ := bcell hb1)
          go_ret
          exact ⟨ret_int HW.out.symm, hb.trans (((Below.refl _ wr).alloc (Nat.le_refl _) _).trans (hb1.mono (by simp)) |>.mono hb.size)⟩
      · have HW := Lib.hid (wrong_at HR.out HC.out (fun x => hi x.1))
        have ti : (c.i != carryAt cs k) = true := by simp [hi]
        clear hi
        go_wp2_with fail
        go_ret
        exact ⟨ret_int HW.out.symm, hb.trans (((Below.refl _ wr).alloc (Nat.le_refl _) _).mono hb.size)⟩
    · obtain rfl : k = cs.length := by omega
      go_wp2
      go_ret
      exact ⟨ret_int (wrong_none HR.out).symm, hb⟩
set_option maxHeartbeats 800000 in
theorem i_wrongRow (v : Value) (cs : List Col) (w : World) (hv : Cols w w.heap.size v cs) (hl : cs.length ≤ 1048576) :
    Calls Try.prog 9 #[v] w fun e w' => e = .returned (.int .i64 (wRow cs)) ∧ Below w.heap.size w w' := by
  obtain ⟨A, cap, rfl⟩ := hv.len
  by_cases hin : 1 ≤ cs.length ∧ cs.length ≤ 9
  · have H := Lib.hid (wRow_in hin)
    have t1 : inB (cs.length : Int) 1 9 = true := inB_iff.2 ⟨by omega, by omega⟩
    obtain ⟨h1, h9⟩ := hin
    have hva : Cols (w.alloc (.cells #[.slice A cs.length cap] 23)) (w.alloc (.cells #[.slice A cs.length cap] 23)).heap.size (.slice A cs.length cap) cs :=
      (hv.below ((Below.refl _ _).alloc (Nat.le_refl _) _)).more (by simp)
    go_enter Try.func9, Try.ntmps9
    go_wp2_with (first | (go_at_call 27; refine (i_in _ _ _ _).mono ?_; rintro e w' ⟨rfl, rfl⟩) | (go_at_call 28; refine (i_wrong_rRow cs cap w.heap.size A _ hva h1 hl (by simp) (by simp)).mono ?_; rintro e w1 ⟨rfl, hb1⟩))
    go_ret
    exact ⟨ret_int H.out.symm, ((Below.refl _ _).alloc (Nat.le_refl _) _).trans (hb1.mono (by simp))⟩
  · have H := Lib.hid (wRow_out hin)
    have t1 : inB (cs.length : Int) 1 9 = false := inB_no (fun x => hin ⟨by omega, by omega⟩)
    clear hin
    go_enter Try.func9, Try.ntmps9
    go_wp2_with (go_at_call 27; refine (i_in _ _ _ _).mono ?_; rintro e w' ⟨rfl, rfl⟩)
    go_ret
    exact ⟨ret_int H.out.symm, (Below.refl _ _).alloc (Nat.le_refl _) _⟩
set_option maxHeartbeats 3200000 in
theorem s_wrongRow (v : Value) (cs : List Col) (w : World) (hv : Cols w w.heap.size v cs) (hl : cs.length ≤ 1048576) :
    Calls Try.prog 10 #[v] w fun e w' => e = .returned (.int .i64 (wRow cs)) ∧ Below w.heap.size w w' := by
  obtain ⟨A, cap, rfl, hc⟩ := hv
  by_cases hin : 1 ≤ cs.length ∧ cs.length ≤ 9
  · have H := Lib.hid (wRow_in hin)
    have t1 : inB (cs.length : Int) 1 9 = true := inB_iff.2 ⟨by omega, by omega⟩
    obtain ⟨h1l, h9⟩ := hin
    have hne : cs ≠ [] := by intro e; rw [e] at h1l; simp at h1l
    obtain ⟨g, rfl, hg, hcell⟩ := hc hne
    obtain ⟨c0, hc0⟩ := getElem?_some_of_lt (cs := cs) (k := 0) (by omega)
    have HB0 := Lib.hid (show w.cell? ⟨g, 1, none⟩ = some (.int .i64 (b0Of cs)) by rw [b0Of_eq hc0]; have := (hcell 0 c0 hc0).2.1; simpa using this)
    have HN := Lib.hid hcell
    have hn1 : (0 : Int) < (cs.length : Int) := by omega
    clear hcell hne hc0 hc
    generalize hb0 : b0Of cs = b0 at *
    clear hb0
    go_enter Try.func10, Try.ntmps10
    go_wp2_with (go_at_call 31; refine (s_in _ _ _ _).mono ?_; rintro e w' ⟨rfl, rfl⟩)
    go_loopw [3, 4] (fun x i wr => ∃ k : Nat, k ≤ cs.length ∧ i = .int .i64 k ∧ x = .int .i64 (carryAt cs k) ∧ RightTo (rRow b0) cs k ∧ Below w.heap.size w wr) (fun _ i _ => cs.length - (intOf i).toNat)
    case atStart => exact ⟨0, Nat.zero_le _, rfl, rfl, RightTo.zero _ _, Below.refl _ _⟩
    case round =>
      obtain ⟨k, hk, rfl, rfl, hr, hb⟩ := hrel
      have HR := Lib.hid hr
      clear hr
      by_cases hlt : k < cs.length
      · obtain ⟨c, hck⟩ := getElem?_some_of_lt hlt
        have HC := Lib.hid hck
        obtain ⟨h0, h1, h2, h3, h4⟩ := (HN.out k c hck).below hg hb
        have hgr : g < wr.heap.size := Nat.lt_of_lt_of_le hg hb.size
        have hbw := (hb.cell (p := ⟨g, 1, none⟩) hg).trans HB0.out
        have hbel := below_drewN ((hb.alloc hb.size (.cells #[.int .i64 c.a, .int .i64 c.b, .int .i64 c.i, .int .i64 c.d, .int .i64 c.o] 28)))
        clear hck
        by_cases hgd : goodB c = true
        · have ht := hgd
          simp only [goodB_eq, Bool.and_eq_true] at ht
          obtain ⟨⟨⟨⟨t2, t3⟩, t4⟩, t5⟩, t6⟩ := ht
          have k0 := inB_iff.1 t2
          have k1 := inB_iff.1 t3
          have k2 := inB_iff.1 t4
          have k3 := inB_iff.1 t5
          have k4 := inB_iff.1 t6
          have km := mul_le81 k0 k1
          have e1 : IntKind.i64.wrap (c.a * c.b) = c.a * c.b := IntWalk.i64_in _ (by omega)
          have e2 : IntKind.i64.wrap (c.a * c.b + c.i) = c.a * c.b + c.i := IntWalk.i64_in _ (by omega)
          have e3 : IntKind.i64.wrap (10 * c.o) = 10 * c.o := IntWalk.i64_in _ (by omega)
          have e4 : IntKind.i64.wrap (c.d + 10 * c.o) = c.d + 10 * c.o := IntWalk.i64_in _ (by omega)
          have HG := Lib.hid hgd
          clear hgd
          by_cases hbb : c.b = b0
          · have tb : (c.b != b0) = false := by simp [hbb]
            have HBB := Lib.hid hbb
            clear hbb
            by_cases hi : c.i = carryAt cs k
            · have HI := Lib.hid hi
              have ti : (c.i != carryAt cs k) = false := by simp [hi]
              clear hi
              by_cases he : c.a * c.b + c.i = c.d + 10 * c.o
              · have HS := Lib.hid (HR.out.succ HC.out HI.out (rRow_iff.2 ⟨HG.out, HBB.out, he⟩))
                have HO := Lib.hid (carryAt_succ HC.out)
                have te : (c.a * c.b + c.i != c.d + 10 * c.o) = false := by simp [he]
                clear he
                go_wp2_with (go_at_call 31; refine (s_in _ _ _ _).mono ?_; rintro e w' ⟨rfl, rfl⟩)
                go_quiet (fail)
                go_wp2
                go_roundw
                case rel => exact ⟨k + 1, by omega, by go_num, by rw [HO.out], HS.out, hbel _⟩
                case measure => simp [intOf]; omega
              · have HW := Lib.hid (wrong_at HR.out HC.out (fun x => he (rRow_iff.1 x.2).2.2))
                have te : (c.a * c.b + c.i != c.d + 10 * c.o) = true := by simp [he]
                clear he
                go_wp2_with (go_at_call 31; refine (s_in _ _ _ _).mono ?_; rintro e w' ⟨rfl, rfl⟩)
                go_quiet (fail)
                go_wp2
                go_ret
                exact ⟨ret_int (H.out.trans HW.out).symm, hbel _⟩
            · have HW := Lib.hid (wrong_at HR.out HC.out (fun x => hi x.1))
              have ti : (c.i != carryAt cs k) = true := by simp [hi]
              clear hi
              go_wp2_with (go_at_call 31; refine (s_in _ _ _ _).mono ?_; rintro e w' ⟨rfl, rfl⟩)
              go_quiet (fail)
              go_wp2
              go_ret
              exact ⟨ret_int (H.out.trans HW.out).symm, hbel _⟩
          · have HW := Lib.hid (wrong_at HR.out HC.out (fun x => hbb (rRow_iff.1 x.2).2.1))
            have tb : (c.b != b0) = true := by simp [hbb]
            clear hbb
            go_wp2_with (go_at_call 31; refine (s_in _ _ _ _).mono ?_; rintro e w' ⟨rfl, rfl⟩)
            go_quiet (fail)
            go_wp2
            go_ret
            exact ⟨ret_int (H.out.trans HW.out).symm, hbel _⟩
        · have HW := Lib.hid (wrong_at HR.out HC.out (fun x => hgd (rRow_iff.1 x.2).1))
          have HG := Lib.hid hgd
          clear hgd
          cases ho : inB c.o 0 9
          all_goals
            go_wp2_with (go_at_call 31; refine (s_in _ _ _ _).mono ?_; rintro e w' ⟨rfl, rfl⟩)
            all_goals first
              | (exfalso; refine HG.out ?_; rw [goodB_eq]; simp [*]; done)
              | (go_quiet (fail); go_wp2; go_ret; exact ⟨ret_int (H.out.trans HW.out).symm, hbel _⟩)
      · obtain rfl : k = cs.length := by omega
        have HW := Lib.hid (wrong_none HR.out)
        go_wp2
        go_ret
        exact ⟨ret_int (H.out.trans HW.out).symm, hb⟩
  · have H := Lib.hid (wRow_out hin)
    have t1 : inB (cs.length : Int) 1 9 = false := inB_no (fun x => hin ⟨by omega, by omega⟩)
    clear hin hc
    go_enter Try.func10, Try.ntmps10
    go_wp2_with (go_at_call 31; refine (s_in _ _ _ _).mono ?_; rintro e w' ⟨rfl, rfl⟩)
    go_ret
    exact ⟨ret_int H.out.symm, Below.refl _ _⟩
end Go.Proofs.Ytcmpbdmpdodbfaa
