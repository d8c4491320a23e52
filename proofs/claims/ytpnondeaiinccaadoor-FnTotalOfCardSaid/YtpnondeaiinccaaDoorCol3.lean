/- Walks of WrongTaken of the program, and of WrongColumn and WrongTaken of the reference. -/
import Derived.Test.YtpnondeaiinccaaDoorCol2
namespace Go.Proofs.YtpnondeaiinccaaDoor
open Go.RowKit
theorem wAdd_early {cs : List Col} {k : Nat} (h : ¬ 9 < cs.length) (hw : wrong rAdd cs = (k : Int)) : wAdd cs = (k : Int) := (wAdd_short h).trans hw
theorem wTake_early {cs : List Col} {k : Nat} (h : ¬ 9 < cs.length) (hw : wrong rTake cs = (k : Int)) : wTake cs = (k : Int) :=
  (wTake_short h (fun x => by have := x.1; omega)).trans hw
theorem last_carry {cs : List Col} {n : Nat} {c : Col} (hn : cs.length = n + 1) (hc : cs[n]? = some c) : carryAt cs cs.length = c.o := by rw [hn]; exact carryAt_succ hc
set_option maxHeartbeats 1600000 in
theorem s_wrongColumn (v : Value) (cs : List Col) (w : World) (hv : Cols w w.heap.size v cs) (hl : cs.length ≤ 1048576) :
    Calls Tryd.prog 88 #[v] w fun e w' => e = .returned (.int .i64 (wAdd cs)) ∧ Below w.heap.size w w' := by
  obtain ⟨A, cap, rfl, hc⟩ := hv
  by_cases h9 : 9 < cs.length
  · have H := Lib.hid (wAdd_long h9)
    go_enter Tryd.func88, Tryd.ntmps88
    go_wp2
    go_ret
    exact ⟨ret_int H.out.symm, Below.refl _ _⟩
  · have h9' : cs.length ≤ 9 := by omega
    by_cases hne : cs = []
    · subst hne
      go_enter Tryd.func88, Tryd.ntmps88
      go_wp2
      go_loop [3, 4] (fun x i => x = .int .i64 0 ∧ i = .int .i64 0) (fun _ _ => 0)
      case atStart => exact ⟨rfl, rfl⟩
      case round =>
        obtain ⟨rfl, rfl⟩ := hrel
        go_wp2
        go_ret
        exact ⟨rfl, Below.refl _ _⟩
    · obtain ⟨g, rfl, hg, hcell⟩ := hc hne
      clear hc
      have HN := Lib.hid hcell
      clear hcell hne
      go_enter Tryd.func88, Tryd.ntmps88
      go_wp2
      go_loopw [3, 4] (fun x i wr => ∃ k : Nat, k ≤ cs.length ∧ i = .int .i64 k ∧ x = .int .i64 (carryAt cs k) ∧ RightTo rAdd cs k ∧ Below w.heap.size w wr) (fun _ i _ => cs.length - (intOf i).toNat)
      case atStart => exact ⟨0, Nat.zero_le _, rfl, rfl, RightTo.zero _ _, Below.refl _ _⟩
      case round =>
        obtain ⟨k, hk, rfl, rfl, hr, hb⟩ := hrel
        have HR := Lib.hid hr
        clear hr
        by_cases hlt : k < cs.length
        · obtain ⟨c, hck⟩ := getElem?_some_of_lt hlt
          have HC := Lib.hid hck
          obtain ⟨h0, h1, h2, h3, h4⟩ := (HN.out k c hck).below hg hb
          have hgr : g < wr.heap.size := Nat.lt_of_lt_of_le hg hb.size
          clear hck
          by_cases hs : singleB c = true
          · obtain ⟨ha, hbb, hii, hd, ho⟩ := singleB_iff.1 hs
            have HSg := Lib.hid hs
            by_cases hi : c.i = carryAt cs k
            · have HI := Lib.hid hi
              have ti : (c.i != carryAt cs k) = false := by simp [hi]
              clear hi
              by_cases he : c.a + c.b + c.i = c.d + 10 * c.o
              · have HS := Lib.hid (HR.out.succ HC.out HI.out (rAdd_iff.2 ⟨hs, he⟩))
                have HO := Lib.hid (carryAt_succ HC.out)
                have te : (c.a + c.b + c.i != c.d + 10 * c.o) = false := by simp [he]
                clear he
                go_wp2_with (go_at_call 74; refine (s_digits c _).mono ?_; rintro e w1 ⟨rfl, hb1⟩; obtain ⟨hcc, hff⟩ := bcell hb1)
                go_roundw
                case rel => exact ⟨k + 1, by omega, by go_num, by rw [HO.out], HS.out, hb.trans (((Below.refl _ wr).alloc (Nat.le_refl _) _).trans (hb1.mono (by simp)) |>.mono hb.size)⟩
                case measure => simp [intOf]; omega
              · have HW := Lib.hid (wrong_at HR.out HC.out (fun x => he (rAdd_iff.1 x.2).2))
                have te : (c.a + c.b + c.i != c.d + 10 * c.o) = true := by simp [he]
                clear he
                have HL := Lib.hid (wAdd_early (by omega : ¬ 9 < cs.length) HW.out)
                go_wp2_with (go_at_call 74; refine (s_digits c _).mono ?_; rintro e w1 ⟨rfl, hb1⟩; obtain ⟨hcc, hff⟩ := bcell hb1)
                go_ret
                exact ⟨ret_int HL.out.symm, hb.trans (((Below.refl _ wr).alloc (Nat.le_refl _) _).trans (hb1.mono (by simp)) |>.mono hb.size)⟩
            · have HW := Lib.hid (wrong_at HR.out HC.out (fun x => hi x.1))
              have ti : (c.i != carryAt cs k) = true := by simp [hi]
              clear hi
              have HL := Lib.hid (wAdd_early (by omega : ¬ 9 < cs.length) HW.out)
              go_wp2_with (go_at_call 74; refine (s_digits c _).mono ?_; rintro e w1 ⟨rfl, hb1⟩; obtain ⟨hcc, hff⟩ := bcell hb1)
              go_ret
              exact ⟨ret_int HL.out.symm, hb.trans (((Below.refl _ wr).alloc (Nat.le_refl _) _).trans (hb1.mono (by simp)) |>.mono hb.size)⟩
          · have hs' : singleB c = false := by simpa using hs
            have HW := Lib.hid (wrong_at HR.out HC.out (fun x => hs (rAdd_iff.1 x.2).1))
            clear hs
            have HL := Lib.hid (wAdd_early (by omega : ¬ 9 < cs.length) HW.out)
            go_wp2_with (go_at_call 74; refine (s_digits c _).mono ?_; rintro e w1 ⟨rfl, hb1⟩; obtain ⟨hcc, hff⟩ := bcell hb1)
            go_ret
            exact ⟨ret_int HL.out.symm, hb.trans (((Below.refl _ wr).alloc (Nat.le_refl _) _).trans (hb1.mono (by simp)) |>.mono hb.size)⟩
        · obtain rfl : k = cs.length := by omega
          have HL := Lib.hid ((wAdd_short (by omega : ¬ 9 < cs.length)).trans (wrong_none HR.out))
          go_wp2
          go_ret
          exact ⟨ret_int HL.out.symm, hb⟩
set_option maxHeartbeats 1600000 in
theorem s_wrongTaken (v : Value) (cs : List Col) (w : World) (hv : Cols w w.heap.size v cs) (hl : cs.length ≤ 1048576) :
    Calls Tryd.prog 41 #[v] w fun e w' => e = .returned (.int .i64 (wTake cs)) ∧ Below w.heap.size w w' := by
  obtain ⟨A, cap, rfl, hc⟩ := hv
  by_cases h9 : 9 < cs.length
  · have H := Lib.hid (wTake_long h9)
    go_enter Tryd.func41, Tryd.ntmps41
    go_wp2
    go_ret
    exact ⟨ret_int H.out.symm, Below.refl _ _⟩
  · have h9' : cs.length ≤ 9 := by omega
    by_cases hne : cs = []
    · subst hne
      go_enter Tryd.func41, Tryd.ntmps41
      go_wp2
      go_loop [3, 4] (fun x i => x = .int .i64 0 ∧ i = .int .i64 0) (fun _ _ => 0)
      case atStart => exact ⟨rfl, rfl⟩
      case round =>
        obtain ⟨rfl, rfl⟩ := hrel
        go_wp2
        go_ret
        exact ⟨rfl, Below.refl _ _⟩
    · obtain ⟨g, rfl, hg, hcell⟩ := hc hne
      clear hc
      have HN := Lib.hid hcell
      clear hcell hne
      go_enter Tryd.func41, Tryd.ntmps41
      go_wp2
      go_loopw [3, 4] (fun x i wr => ∃ k : Nat, k ≤ cs.length ∧ i = .int .i64 k ∧ x = .int .i64 (carryAt cs k) ∧ RightTo rTake cs k ∧ Below w.heap.size w wr) (fun _ i _ => cs.length - (intOf i).toNat)
      case atStart => exact ⟨0, Nat.zero_le _, rfl, rfl, RightTo.zero _ _, Below.refl _ _⟩
      case round =>
        obtain ⟨k, hk, rfl, rfl, hr, hb⟩ := hrel
        have HR := Lib.hid hr
        clear hr
        by_cases hlt : k < cs.length
        · obtain ⟨c, hck⟩ := getElem?_some_of_lt hlt
          have HC := Lib.hid hck
          obtain ⟨h0, h1, h2, h3, h4⟩ := (HN.out k c hck).below hg hb
          have hgr : g < wr.heap.size := Nat.lt_of_lt_of_le hg hb.size
          clear hck
          by_cases hs : singleB c = true
          · obtain ⟨ha, hbb, hii, hd, ho⟩ := singleB_iff.1 hs
            have HSg := Lib.hid hs
            by_cases hi : c.i = carryAt cs k
            · have HI := Lib.hid hi
              have ti : (c.i != carryAt cs k) = false := by simp [hi]
              clear hi
              by_cases he : c.a + 10 * c.o = c.b + c.i + c.d
              · have HS := Lib.hid (HR.out.succ HC.out HI.out (rTake_iff.2 ⟨hs, he⟩))
                have HO := Lib.hid (carryAt_succ HC.out)
                have te : (c.a + 10 * c.o != c.b + c.i + c.d) = false := by simp [he]
                clear he
                go_wp2_with (go_at_call 74; refine (s_digits c _).mono ?_; rintro e w1 ⟨rfl, hb1⟩; obtain ⟨hcc, hff⟩ := bcell hb1)
                go_roundw
                case rel => exact ⟨k + 1, by omega, by go_num, by rw [HO.out], HS.out, hb.trans (((Below.refl _ wr).alloc (Nat.le_refl _) _).trans (hb1.mono (by simp)) |>.mono hb.size)⟩
                case measure => simp [intOf]; omega
              · have HW := Lib.hid (wrong_at HR.out HC.out (fun x => he (rTake_iff.1 x.2).2))
                have te : (c.a + 10 * c.o != c.b + c.i + c.d) = true := by simp [he]
                clear he
                have HL := Lib.hid (wTake_early (by omega : ¬ 9 < cs.length) HW.out)
                go_wp2_with (go_at_call 74; refine (s_digits c _).mono ?_; rintro e w1 ⟨rfl, hb1⟩; obtain ⟨hcc, hff⟩ := bcell hb1)
                go_ret
                exact ⟨ret_int HL.out.symm, hb.trans (((Below.refl _ wr).alloc (Nat.le_refl _) _).trans (hb1.mono (by simp)) |>.mono hb.size)⟩
            · have HW := Lib.hid (wrong_at HR.out HC.out (fun x => hi x.1))
              have ti : (c.i != carryAt cs k) = true := by simp [hi]
              clear hi
              have HL := Lib.hid (wTake_early (by omega : ¬ 9 < cs.length) HW.out)
              go_wp2_with (go_at_call 74; refine (s_digits c _).mono ?_; rintro e w1 ⟨rfl, hb1⟩; obtain ⟨hcc, hff⟩ := bcell hb1)
              go_ret
              exact ⟨ret_int HL.out.symm, hb.trans (((Below.refl _ wr).alloc (Nat.le_refl _) _).trans (hb1.mono (by simp)) |>.mono hb.size)⟩
          · have hs' : singleB c = false := by simpa using hs
            have HW := Lib.hid (wrong_at HR.out HC.out (fun x => hs (rTake_iff.1 x.2).1))
            clear hs
            have HL := Lib.hid (wTake_early (by omega : ¬ 9 < cs.length) HW.out)
            go_wp2_with (go_at_call 74; refine (s_digits c _).mono ?_; rintro e w1 ⟨rfl, hb1⟩; obtain ⟨hcc, hff⟩ := bcell hb1)
            go_ret
            exact ⟨ret_int HL.out.symm, hb.trans (((Below.refl _ wr).alloc (Nat.le_refl _) _).trans (hb1.mono (by simp)) |>.mono hb.size)⟩
        · obtain rfl : k = cs.length := by omega
          by_cases h1 : carryAt cs cs.length = 1
          · have HL := Lib.hid (wTake_last (by omega : ¬ 9 < cs.length) (wrong_none HR.out) h1)
            have t1 : (carryAt cs cs.length == 1) = true := by simp [h1]
            clear h1
            go_wp2
            go_ret
            exact ⟨ret_int HL.out.symm, hb⟩
          · have HL := Lib.hid ((wTake_short (by omega : ¬ 9 < cs.length) (fun x => h1 x.2)).trans (wrong_none HR.out))
            have t1 : (carryAt cs cs.length == 1) = false := by simp [h1]
            clear h1
            go_wp2
            go_ret
            exact ⟨ret_int HL.out.symm, hb⟩

set_option maxHeartbeats 1600000 in
theorem i_wrongTaken (v : Value) (cs : List Col) (w : World) (hv : Cols w w.heap.size v cs) (hl : cs.length ≤ 1048576) :
    Calls Tryd.prog 39 #[v] w fun e w' => e = .returned (.int .i64 (wTake cs)) ∧ Below w.heap.size w w' := by
  obtain ⟨A, cap, rfl, hc⟩ := id hv
  by_cases h9 : 9 < cs.length
  · have H := Lib.hid (wTake_long h9)
    go_enter Tryd.func39, Tryd.ntmps39
    go_wp2
    go_ret
    exact ⟨ret_int H.out.symm, Below.refl _ _⟩
  · have h9' : cs.length ≤ 9 := by omega
    by_cases hw : wrong rTake cs = -1
    · have t1 : (wrong rTake cs == -1) = true := by simp [hw]
      have HW := Lib.hid hw
      clear hw
      by_cases hz : cs.length = 0
      · have H := Lib.hid ((wTake_short h9 (fun x => by have := x.2; rw [hz] at this; simp [carryAt] at this)).trans HW.out)
        have hz' : cs.length ≤ 0 := by omega
        have HZ := Lib.hid hz
        clear hz
        go_enter Tryd.func39, Tryd.ntmps39
        go_wp2_with (go_at_call 79; refine (i_wrong_rTake _ cs _ hv hl).mono ?_; rintro e w1 ⟨rfl, hb1⟩)
        go_ret
        exact ⟨ret_int (by rw [H.out]; exact HW.out), hb1⟩
      · obtain ⟨n, hn⟩ : ∃ n, cs.length = n + 1 := ⟨cs.length - 1, by omega⟩
        have hne : cs ≠ [] := by intro e; rw [e] at hn; simp at hn
        obtain ⟨c, hcn⟩ := getElem?_some_of_lt (cs := cs) (k := n) (by omega)
        obtain ⟨g, rfl, hg, hcell⟩ := hc hne
        have HL := Lib.hid (last_carry hn hcn)
        obtain ⟨h0, h1, h2, h3, h4⟩ := hcell n c hcn
        have h4' : w.cell? ⟨g, (cs.length - 1) * 5 + 4, none⟩ = some (.int .i64 c.o) := by rw [hn]; exact h4
        have hp : 1 ≤ cs.length := by omega
        clear h0 h1 h2 h3 h4 hcell hc hz hn hcn hne
        by_cases ho : c.o = 1
        · have H := Lib.hid (wTake_last h9 HW.out (HL.out.trans ho))
          have t2 : (c.o == 1) = true := by simp [ho]
          clear ho
          go_enter Tryd.func39, Tryd.ntmps39
          go_wp2_with (go_at_call 79; refine (i_wrong_rTake _ cs _ hv hl).mono ?_; rintro e w1 ⟨rfl, hb1⟩; obtain ⟨hcc, hff⟩ := bcell hb1)
          go_ret
          exact ⟨ret_int H.out.symm, hb1⟩
        · have H := Lib.hid (wTake_short h9 (fun x => ho (HL.out.symm.trans x.2)))
          have t2 : (c.o == 1) = false := by simp [ho]
          clear ho
          go_enter Tryd.func39, Tryd.ntmps39
          go_wp2_with (go_at_call 79; refine (i_wrong_rTake _ cs _ hv hl).mono ?_; rintro e w1 ⟨rfl, hb1⟩; obtain ⟨hcc, hff⟩ := bcell hb1)
          go_ret
          exact ⟨ret_int H.out.symm, hb1⟩
    · have H := Lib.hid (wTake_short h9 (fun x => hw x.1))
      have t1 : (wrong rTake cs == -1) = false := by simp [hw]
      clear hw
      go_enter Tryd.func39, Tryd.ntmps39
      go_wp2_with (go_at_call 79; refine (i_wrong_rTake _ cs _ hv hl).mono ?_; rintro e w1 ⟨rfl, hb1⟩)
      go_ret
      exact ⟨ret_int H.out.symm, hb1⟩
end Go.Proofs.YtpnondeaiinccaaDoor
