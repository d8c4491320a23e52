/- Walks of outs, CarriesIn and BorrowsIn. -/
import Derived.Test.YtpnondeaiinccaaDoorCol3
namespace Go.Proofs.YtpnondeaiinccaaDoor
open Go.RowKit
def Car01 (cs : List Col) : Prop := ∀ (k : Nat) (c : Col), cs[k]? = some c → 0 ≤ c.o ∧ c.o ≤ 1
theorem outs_bounds {cs : List Col} (h : Car01 cs) : ∀ k, k ≤ cs.length → 0 ≤ outsI (cs.take k) ∧ outsI (cs.take k) ≤ (k : Int) := by
  intro k
  induction k with
  | zero => intro _; simp [outsI]
  | succ k ih =>
    intro hk
    obtain ⟨c, hc⟩ := getElem?_some_of_lt (cs := cs) (k := k) (by omega)
    have := h k c hc
    have := ih (by omega)
    rw [outs_take hc]; omega
theorem car01_of_right {r : Col → Bool} {cs : List Col} (hr : ∀ c, r c = true → singleB c = true) (h : RightTo r cs cs.length) : Car01 cs := fun k c hc => by
  have hk : k < cs.length := (List.getElem?_eq_some_iff.1 hc).1
  exact (singleB_iff.1 (hr c (h k c hk hc).2)).2.2.2.2
theorem wAdd_right {cs : List Col} (h : wAdd cs = -1) : RightTo rAdd cs cs.length := by
  unfold wAdd at h
  split at h
  · omega
  · exact right_of_none h
theorem wTake_right {cs : List Col} (h : wTake cs = -1) : RightTo rTake cs cs.length := by
  unfold wTake at h
  split at h
  · omega
  · split at h
    · omega
    · exact right_of_none h
theorem car01_wAdd {cs : List Col} (h : wAdd cs = -1) : Car01 cs := car01_of_right (fun _ hr => (rAdd_iff.1 hr).1) (wAdd_right h)
theorem car01_wTake {cs : List Col} (h : wTake cs = -1) : Car01 cs := car01_of_right (fun _ hr => (rTake_iff.1 hr).1) (wTake_right h)
set_option maxHeartbeats 1600000 in
theorem i_outs (v : Value) (cs : List Col) (w : World) (hv : Cols w w.heap.size v cs) (hl : cs.length ≤ 1048576) (h01 : Car01 cs) :
    Calls Tryd.prog 87 #[v] w fun e w' => e = .returned (.int .i64 (outsI cs)) ∧ Below w.heap.size w w' := by
  obtain ⟨A, cap, rfl, hc⟩ := hv
  have H01 := Lib.hid h01
  clear h01
  by_cases hne : cs = []
  · subst hne
    go_enter Tryd.func87, Tryd.ntmps87
    go_wp2
    go_loop [3, 8] (fun x i => x = .int .i64 0 ∧ i = .int .i64 0) (fun _ _ => 0)
    case atStart => exact ⟨rfl, rfl⟩
    case round =>
      obtain ⟨rfl, rfl⟩ := hrel
      go_wp2
      go_ret
      exact ⟨rfl, Below.refl _ _⟩
  · obtain ⟨g, rfl, hg, hcell⟩ := hc hne
    have HN := Lib.hid hcell
    clear hcell hne hc
    go_enter Tryd.func87, Tryd.ntmps87
    go_wp2
    go_loopw [3, 8] (fun x i wr => ∃ k : Nat, k ≤ cs.length ∧ i = .int .i64 k ∧ x = .int .i64 (outsI (cs.take k)) ∧ Below w.heap.size w wr) (fun _ i _ => cs.length - (intOf i).toNat)
    case atStart => exact ⟨0, Nat.zero_le _, rfl, rfl, Below.refl _ _⟩
    case round =>
      obtain ⟨k, hk, rfl, rfl, hb⟩ := hrel
      have hbd := outs_bounds H01.out k hk
      by_cases hlt : k < cs.length
      · obtain ⟨c, hck⟩ := getElem?_some_of_lt hlt
        obtain ⟨h0, h1, h2, h3, h4⟩ := (HN.out k c hck).below hg hb
        have hgr : g < wr.heap.size := Nat.lt_of_lt_of_le hg hb.size
        have ho := H01.out k c hck
        have HT := Lib.hid (outs_take hck)
        clear hck
        go_wp2
        go_roundw
        case rel => exact ⟨k + 1, by omega, by go_num, by rw [HT.out], hb.alloc hb.size _⟩
        case measure => simp [intOf]; omega
      · obtain rfl : k = cs.length := by omega
        have HL := Lib.hid (show outsI (cs.take cs.length) = outsI cs by rw [List.take_length])
        clear hbd
        go_wp2
        go_ret
        exact ⟨ret_int HL.out, hb⟩
set_option maxHeartbeats 800000 in
theorem i_carriesIn (v : Value) (cs : List Col) (w : World) (hv : Cols w w.heap.size v cs) (hl : cs.length ≤ 1048576) :
    Calls Tryd.prog 49 #[v] w fun e w' => e = .returned (.int .i64 (carriesI cs)) ∧ Below w.heap.size w w' := by
  by_cases hw : wAdd cs = -1
  · have HA := Lib.hid (show carriesI cs = outsI cs by unfold carriesI; rw [if_pos hw])
    have H01 := Lib.hid (car01_wAdd hw)
    have t1 : (wAdd cs != -1) = false := by simp [hw]
    clear hw
    go_enter Tryd.func49, Tryd.ntmps49
    go_wp2_with (first | (go_at_call 34; refine (i_wrongColumn _ cs _ hv hl).mono ?_; rintro e w1 ⟨rfl, hb1⟩) | (go_at_call 87; refine (i_outs _ cs _ ((hv.below hb1).more hb1.size) hl H01.out).mono ?_; rintro e w2 ⟨rfl, hb2⟩))
    go_ret
    exact ⟨ret_int HA.out.symm, hb1.trans (hb2.mono hb1.size)⟩
  · have HA := Lib.hid (show carriesI cs = -1 by unfold carriesI; rw [if_neg hw])
    have t1 : (wAdd cs != -1) = true := by simp [hw]
    clear hw
    go_enter Tryd.func49, Tryd.ntmps49
    go_wp2_with (go_at_call 34; refine (i_wrongColumn _ cs _ hv hl).mono ?_; rintro e w1 ⟨rfl, hb1⟩)
    go_ret
    exact ⟨ret_int HA.out.symm, hb1⟩
set_option maxHeartbeats 800000 in
theorem i_borrowsIn (v : Value) (cs : List Col) (w : World) (hv : Cols w w.heap.size v cs) (hl : cs.length ≤ 1048576) :
    Calls Tryd.prog 50 #[v] w fun e w' => e = .returned (.int .i64 (borrowsI cs)) ∧ Below w.heap.size w w' := by
  by_cases hw : wTake cs = -1
  · have HA := Lib.hid (show borrowsI cs = outsI cs by unfold borrowsI; rw [if_pos hw])
    have H01 := Lib.hid (car01_wTake hw)
    have t1 : (wTake cs != -1) = false := by simp [hw]
    clear hw
    go_enter Tryd.func50, Tryd.ntmps50
    go_wp2_with (first | (go_at_call 39; refine (i_wrongTaken _ cs _ hv hl).mono ?_; rintro e w1 ⟨rfl, hb1⟩) | (go_at_call 87; refine (i_outs _ cs _ ((hv.below hb1).more hb1.size) hl H01.out).mono ?_; rintro e w2 ⟨rfl, hb2⟩))
    go_ret
    exact ⟨ret_int HA.out.symm, hb1.trans (hb2.mono hb1.size)⟩
  · have HA := Lib.hid (show borrowsI cs = -1 by unfold borrowsI; rw [if_neg hw])
    have t1 : (wTake cs != -1) = true := by simp [hw]
    clear hw
    go_enter Tryd.func50, Tryd.ntmps50
    go_wp2_with (go_at_call 39; refine (i_wrongTaken _ cs _ hv hl).mono ?_; rintro e w1 ⟨rfl, hb1⟩)
    go_ret
    exact ⟨ret_int HA.out.symm, hb1⟩
end Go.Proofs.YtpnondeaiinccaaDoor
