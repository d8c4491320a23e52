/- Walks of the functions that look for the first column that is not right. -/
import Derived.Test.YtpnondeaiinccaaDoorCol1
import Derived.LoopTactic
namespace Go.Proofs.YtpnondeaiinccaaDoor
open Go.RowKit
theorem getElem?_some_of_lt {cs : List Col} {k : Nat} (h : k < cs.length) : ∃ c, cs[k]? = some c := ⟨_, List.getElem?_eq_getElem h⟩
set_option maxHeartbeats 1600000 in
theorem i_wrong_rAdd (v : Value) (cs : List Col) (w : World) (hv : Cols w w.heap.size v cs) (hl : cs.length ≤ 1048576) :
    Calls Tryd.prog 79 #[v, .func (.func 80) #[] #[]] w fun e w' => e = .returned (.int .i64 (wrong rAdd cs)) ∧ Below w.heap.size w w' := by
  obtain ⟨A, cap, rfl, hc⟩ := hv
  by_cases hne : cs = []
  · subst hne
    go_enter Tryd.func79, Tryd.ntmps79
    go_wp2
    go_loop [5, 10] (fun x i => x = .int .i64 0 ∧ i = .int .i64 0) (fun _ _ => 0)
    case atStart => exact ⟨rfl, rfl⟩
    case round =>
      obtain ⟨rfl, rfl⟩ := hrel
      go_wp2
      go_ret
      exact ⟨rfl, Below.refl _ _⟩
  · obtain ⟨g, rfl, hg, hcell⟩ := hc hne
    clear hc
    have HN := Lib.hid hcell
    clear hcell hne
    go_enter Tryd.func79, Tryd.ntmps79
    go_wp2
    go_loopw [5, 10] (fun x i wr => ∃ k : Nat, k ≤ cs.length ∧ i = .int .i64 k ∧ x = .int .i64 (carryAt cs k) ∧ RightTo rAdd cs k ∧ Below w.heap.size w wr) (fun _ i _ => cs.length - (intOf i).toNat)
    case atStart => exact ⟨0, Nat.zero_le _, rfl, rfl, RightTo.zero _ _, Below.refl _ _⟩
    case round =>
      obtain ⟨k, hk, rfl, rfl, hr, hb⟩ := hrel
      have HR := Lib.hid hr
      clear hr
      by_cases hlt : k < cs.length
      · obtain ⟨c, hck⟩ := getElem?_some_of_lt hlt
        have HC := Lib.hid hck
        obtain ⟨h0, h1, h2, h3, h4⟩ := (HN.out k c hck).below hg hb
        have hgr : g < wr.heap.size := Nat.lt_of_lt_of_le hg hb.size
        clear hck
        by_cases hi : c.i = carryAt cs k
        · have HI := Lib.hid hi
          have ti : (c.i != carryAt cs k) = false := by simp [hi]
          clear hi
          by_cases hrc : rAdd c = true
          · have HS := Lib.hid (HR.out.succ HC.out HI.out hrc)
            have HO := Lib.hid (carryAt_succ HC.out)
            go_wp2_with (go_at_call 80; refine (i_rAdd c _).mono ?_; rintro e w1 ⟨rfl, hb1⟩; obtain ⟨hcc, hff⟩ := bcell hb1)
            go_roundw
            case rel => exact ⟨k + 1, by omega, by go_num, by rw [HO.out], HS.out, hb.trans (((Below.refl _ wr).alloc (Nat.le_refl _) _).trans (hb1.mono (by simp)) |>.mono hb.size)⟩
            case measure => simp [intOf]; omega
          · have hrc' : rAdd c = false := by simpa using hrc
            have HW := Lib.hid (wrong_at HR.out HC.out (fun x => hrc x.2))
            clear hrc
            go_wp2_with (go_at_call 80; refine (i_rAdd c _).mono ?_; rintro e w1 ⟨rfl, hb1⟩; obtain ⟨hcc, hff⟩ := bcell hb1)
            go_ret
            exact ⟨ret_int HW.out.symm, hb.trans (((Below.refl _ wr).alloc (Nat.le_refl _) _).trans (hb1.mono (by simp)) |>.mono hb.size)⟩
        · have HW := Lib.hid (wrong_at HR.out HC.out (fun x => hi x.1))
          have ti : (c.i != carryAt cs k) = true := by simp [hi]
          clear hi
          go_wp2_with fail
          go_ret
          exact ⟨ret_int HW.out.symm, hb.trans (((Below.refl _ wr).alloc (Nat.le_refl _) _).mono hb.size)⟩
      · obtain rfl : k = cs.length := by omega
        go_wp2
        go_ret
        exact ⟨ret_int (wrong_none HR.out).symm, hb⟩
set_option maxHeartbeats 1600000 in
theorem i_wrong_rTake (v : Value) (cs : List Col) (w : World) (hv : Cols w w.heap.size v cs) (hl : cs.length ≤ 1048576) :
    Calls Tryd.prog 79 #[v, .func (.func 85) #[] #[]] w fun e w' => e = .returned (.int .i64 (wrong rTake cs)) ∧ Below w.heap.size w w' := by
  obtain ⟨A, cap, rfl, hc⟩ := hv
  by_cases hne : cs = []
  · subst hne
    go_enter Tryd.func79, Tryd.ntmps79
    go_wp2
    go_loop [5, 10] (fun x i => x = .int .i64 0 ∧ i = .int .i64 0) (fun _ _ => 0)
    case atStart => exact ⟨rfl, rfl⟩
    case round =>
      obtain ⟨rfl, rfl⟩ := hrel
      go_wp2
      go_ret
      exact ⟨rfl, Below.refl _ _⟩
  · obtain ⟨g, rfl, hg, hcell⟩ := hc hne
    clear hc
    have HN := Lib.hid hcell
    clear hcell hne
    go_enter Tryd.func79, Tryd.ntmps79
    go_wp2
    go_loopw [5, 10] (fun x i wr => ∃ k : Nat, k ≤ cs.length ∧ i = .int .i64 k ∧ x = .int .i64 (carryAt cs k) ∧ RightTo rTake cs k ∧ Below w.heap.size w wr) (fun _ i _ => cs.length - (intOf i).toNat)
    case atStart => exact ⟨0, Nat.zero_le _, rfl, rfl, RightTo.zero _ _, Below.refl _ _⟩
    case round =>
      obtain ⟨k, hk, rfl, rfl, hr, hb⟩ := hrel
      have HR := Lib.hid hr
      clear hr
      by_cases hlt : k < cs.length
      · obtain ⟨c, hck⟩ := getElem?_some_of_lt hlt
        have HC := Lib.hid hck
        obtain ⟨h0, h1, h2, h3, h4⟩ := (HN.out k c hck).below hg hb
        have hgr : g < wr.heap.size := Nat.lt_of_lt_of_le hg hb.size
        clear hck
        by_cases hi : c.i = carryAt cs k
        · have HI := Lib.hid hi
          have ti : (c.i != carryAt cs k) = false := by simp [hi]
          clear hi
          by_cases hrc : rTake c = true
          · have HS := Lib.hid (HR.out.succ HC.out HI.out hrc)
            have HO := Lib.hid (carryAt_succ HC.out)
            go_wp2_with (go_at_call 85; refine (i_rTake c _).mono ?_; rintro e w1 ⟨rfl, hb1⟩; obtain ⟨hcc, hff⟩ := bcell hb1)
            go_roundw
            case rel => exact ⟨k + 1, by omega, by go_num, by rw [HO.out], HS.out, hb.trans (((Below.refl _ wr).alloc (Nat.le_refl _) _).trans (hb1.mono (by simp)) |>.mono hb.size)⟩
            case measure => simp [intOf]; omega
          · have hrc' : rTake c = false := by simpa using hrc
            have HW := Lib.hid (wrong_at HR.out HC.out (fun x => hrc x.2))
            clear hrc
            go_wp2_with (go_at_call 85; refine (i_rTake c _).mono ?_; rintro e w1 ⟨rfl, hb1⟩; obtain ⟨hcc, hff⟩ := bcell hb1)
            go_ret
            exact ⟨ret_int HW.out.symm, hb.trans (((Below.refl _ wr).alloc (Nat.le_refl _) _).trans (hb1.mono (by simp)) |>.mono hb.size)⟩
        · have HW := Lib.hid (wrong_at HR.out HC.out (fun x => hi x.1))
          have ti : (c.i != carryAt cs k) = true := by simp [hi]
          clear hi
          go_wp2_with fail
          go_ret
          exact ⟨ret_int HW.out.symm, hb.trans (((Below.refl _ wr).alloc (Nat.le_refl _) _).mono hb.size)⟩
      · obtain rfl : k = cs.length := by omega
        go_wp2
        go_ret
        exact ⟨ret_int (wrong_none HR.out).symm, hb⟩

theorem wAdd_long {cs : List Col} (h : 9 < cs.length) : wAdd cs = -2 := by simp [wAdd, h]
theorem wAdd_short {cs : List Col} (h : ¬ 9 < cs.length) : wAdd cs = wrong rAdd cs := by simp [wAdd, h]
theorem wTake_long {cs : List Col} (h : 9 < cs.length) : wTake cs = -2 := by simp [wTake, h]
theorem wTake_short {cs : List Col} (h : ¬ 9 < cs.length) (h2 : ¬ (wrong rTake cs = -1 ∧ carryAt cs cs.length = 1)) : wTake cs = wrong rTake cs := by
  unfold wTake; rw [if_neg h, if_neg h2]
theorem wTake_last {cs : List Col} (h : ¬ 9 < cs.length) (h1 : wrong rTake cs = -1) (h2 : carryAt cs cs.length = 1) : wTake cs = (cs.length : Int) := by
  unfold wTake; rw [if_neg h, if_pos ⟨h1, h2⟩]
theorem wrong_lo (r : Col → Bool) (cs : List Col) : -1 ≤ wrong r cs := by
  have key : ∀ (l : List Col) (x : Int) (k : Nat), -1 ≤ wrongFrom r x k l := by
    intro l
    induction l with
    | nil => intro x k; simp [wrongFrom]
    | cons c l ih => intro x k; rw [wrongFrom]; split; exact ih _ _; omega
  exact key cs 0 0
set_option maxHeartbeats 800000 in
theorem i_wrongColumn (v : Value) (cs : List Col) (w : World) (hv : Cols w w.heap.size v cs) (hl : cs.length ≤ 1048576) :
    Calls Tryd.prog 34 #[v] w fun e w' => e = .returned (.int .i64 (wAdd cs)) ∧ Below w.heap.size w w' := by
  obtain ⟨A, cap, rfl⟩ := hv.len
  by_cases h9 : 9 < cs.length
  · have H := Lib.hid (wAdd_long h9)
    go_enter Tryd.func34, Tryd.ntmps34
    go_wp2
    go_ret
    exact ⟨ret_int H.out.symm, Below.refl _ _⟩
  · have H := Lib.hid (wAdd_short h9)
    have h9' : cs.length ≤ 9 := by omega
    go_enter Tryd.func34, Tryd.ntmps34
    go_wp2_with (go_at_call 79; refine (i_wrong_rAdd _ cs _ hv hl).mono ?_; rintro e w1 ⟨rfl, hb1⟩)
    go_ret
    exact ⟨ret_int H.out.symm, hb1⟩
end Go.Proofs.YtpnondeaiinccaaDoor
