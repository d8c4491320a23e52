/- Walk of spec.OnTranscript. -/
import Derived.Test.YtpnondeaiinccaaDoorTrans
namespace Go.Proofs.YtpnondeaiinccaaDoor
open Go.RowKit
set_option linter.unusedVariables false
set_option maxRecDepth 100000
theorem ba_front (b : UInt8) (l : List UInt8) : (⟨[b].toArray⟩ : ByteArray) ++ ⟨l.toArray⟩ = ⟨(b :: l).toArray⟩ := ba_append [b] l
theorem digs_snoc {cs : List Col} {k : Nat} {c : Col} (g : Col → Int) (h : cs[k]? = some c) : byteOf (g c) :: digs g (cs.take k) = digs g (cs.take (k + 1)) := by
  unfold digs
  rw [List.take_add_one, h, List.map_append, List.reverse_append]; rfl
theorem allD_of {g : Col → Int} {cs : List Col} (h : ∀ k c, k < cs.length → cs[k]? = some c → 0 ≤ g c ∧ g c ≤ 9) : allD g cs := by
  intro c hc
  obtain ⟨k, hk⟩ := List.getElem?_of_mem hc
  exact h k c (List.getElem?_eq_some_iff.1 hk).1 hk
set_option maxHeartbeats 3200000 in
theorem s_onTranscript (v : Value) (cs : List Col) (w : World) (hv : Cols w w.heap.size v cs) (hl : cs.length ≤ 1048576) :
    Calls Tryd.prog 29 #[v] w fun e w' => e = transE cs ∧ Below w.heap.size w w' := by
  obtain ⟨A, cap, rfl, hc⟩ := hv
  have HC := Lib.hid hc
  clear hc
  go_enter Tryd.func29, Tryd.ntmps29
  go_wp2
  go_loopw [5, 6, 7] (fun a b i wr => ∃ k : Nat, k ≤ cs.length ∧ i = .int .i64 k ∧ a = .string ⟨(digs Col.a (cs.take k)).toArray⟩ ∧ b = .string ⟨(digs Col.b (cs.take k)).toArray⟩ ∧ (∀ j c, j < k → cs[j]? = some c → singleB c = true) ∧ Below w.heap.size w wr) (fun _ _ i _ => cs.length - (intOf i).toNat)
  case atStart => exact ⟨0, Nat.zero_le _, rfl, rfl, rfl, fun j _ hj => absurd hj (by omega), Below.refl _ _⟩
  case round =>
    obtain ⟨k, hk, rfl, rfl, rfl, hall, hb⟩ := hrel
    have HA := Lib.hid hall
    clear hall
    by_cases hlt : k < cs.length
    · obtain ⟨g, rfl, hg, hcell⟩ := HC.out (fun e => by rw [e] at hlt; simp at hlt)
      obtain ⟨c, hck⟩ : ∃ c, cs[k]? = some c := ⟨_, List.getElem?_eq_getElem hlt⟩
      obtain ⟨h0, h1, h2, h3, h4⟩ := (hcell k c hck).below hg hb
      have HCK := Lib.hid hck
      have hgr : g < wr.heap.size := Nat.lt_of_lt_of_le hg hb.size
      by_cases hsb : singleB c = true
      · have HSB := Lib.hid hsb
        have da := (singleB_iff.1 hsb).1
        have db := (singleB_iff.1 hsb).2.1
        have HEA := Lib.hid (dec_one da)
        have HEB := Lib.hid (dec_one db)
        have HTA := Lib.hid (digs_snoc Col.a hck)
        have HTB := Lib.hid (digs_snoc Col.b hck)
        have za : ByteArray.size ⟨(digs Col.a (cs.take k)).toArray⟩ ≤ 1048576 := by rw [digs_size, List.length_take]; omega
        have zb : ByteArray.size ⟨(digs Col.b (cs.take k)).toArray⟩ ≤ 1048576 := by rw [digs_size, List.length_take]; omega
        have na : ByteArray.size ⟨(Lib.decDigits c.a.toNat).toArray⟩ = 1 := by rw [HEA.out]; rfl
        have nb : ByteArray.size ⟨(Lib.decDigits c.b.toNat).toArray⟩ = 1 := by rw [HEB.out]; rfl
        have HCELL := Lib.hid hcell
        clear hcell hck
        go_wp2_with fail
        refine (s_digits c _).mono ?_
        rintro e w1 ⟨rfl, hb1⟩
        have hb1' := hb.trans (hb1.mono hb.size)
        obtain ⟨x0, x1, x2, x3, x4⟩ := (HCELL.out k c HCK.out).below hg hb1'
        have hg1 : g < w1.heap.size := Nat.lt_of_lt_of_le hg hb1'.size
        clear h0 h1 h2 h3 h4
        go_wp2_with fail
        refine (s_l1Number_small _ _ da.1 da.2).mono ?_
        rintro e w2 ⟨rfl, hb2⟩
        have hb2' := hb1'.trans (hb2.mono hb1'.size)
        obtain ⟨y0, y1, y2, y3, y4⟩ := (HCELL.out k c HCK.out).below hg hb2'
        have hg2 : g < w2.heap.size := Nat.lt_of_lt_of_le hg hb2'.size
        clear x0 x1 x2 x3 x4
        go_wp2_with fail
        refine (s_l1Number_small _ _ db.1 db.2).mono ?_
        rintro e w3 ⟨rfl, hb3⟩
        have hb3' := hb2'.trans (hb3.mono hb2'.size)
        clear y0 y1 y2 y3 y4
        go_wp2_with fail
        go_roundw
        case rel =>
          refine ⟨k + 1, by omega, by go_num, by rw [HEA.out, ba_front, HTA.out], by rw [HEB.out, ba_front, HTB.out], fun j c' hj hc' => ?_, hb3'⟩
          by_cases e : j = k
          · subst e
            obtain rfl := Option.some.inj (HCK.out.symm.trans hc')
            exact HSB.out
          · exact HA.out j c' (by omega) hc'
        case measure => simp [intOf]; omega
      · have hsb' := ne_true hsb
        have H := Lib.hid (transE_no (transB_bad hck hsb'))
        clear hsb hcell hck
        go_wp2_with fail
        refine (s_digits c _).mono ?_
        rintro e w1 ⟨rfl, hb1⟩
        go_wp2_with fail
        go_ret3
        exact ⟨H.out, hb.trans (hb1.mono hb.size)⟩
    · obtain rfl : k = cs.length := by omega
      have hall := all_to (fun j c hj hc => HA.out j c hj hc)
      have dA := (single_allD hall).1
      have dB := (single_allD hall).2.1
      rw [List.take_length]
      by_cases hlen : 1 ≤ cs.length ∧ cs.length ≤ 9
      · have ti : inB (cs.length : Int) 1 9 = true := inB_iff.2 (by omega)
        have hne : cs ≠ [] := fun e => by rw [e] at hlen; simp at hlen
        have H := Lib.hid (transE_ok (transB_iff.2 ⟨hlen, hall⟩))
        have HTA := Lib.hid (trimS_digs hne dA)
        have HTB := Lib.hid (trimS_digs hne dB)
        have za : ByteArray.size ⟨(digs Col.a cs).toArray⟩ ≤ maxLen := by rw [digs_size]; unfold maxLen; omega
        have zb : ByteArray.size ⟨(digs Col.b cs).toArray⟩ ≤ maxLen := by rw [digs_size]; unfold maxLen; omega
        clear hall dA dB hne hlen
        go_wp2_with (first | (go_at_call 75; refine (s_in _ _ _ _).mono ?_; rintro e w' ⟨rfl, rfl⟩) | (go_at_call 66; refine (s_trim _ _ (by first | exact za | exact zb)).mono ?_; rintro e w3 ⟨rfl, rfl⟩))
        go_ret3
        exact ⟨by rw [HTA.out, HTB.out]; exact H.out, hb⟩
      · have ti : inB (cs.length : Int) 1 9 = false := inB_no (by omega)
        have H := Lib.hid (transE_no (transB_len hlen))
        clear hall dA dB hlen
        go_wp2_with (go_at_call 75; refine (s_in _ _ _ _).mono ?_; rintro e w' ⟨rfl, rfl⟩)
        go_ret3
        exact ⟨H.out, hb⟩
end Go.Proofs.YtpnondeaiinccaaDoor
