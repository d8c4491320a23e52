/- The walk of laws.FnExactAddedBack: the program's and the reference's answers are the same, each answer is one of its own; nothing that was there is changed. -/
import Derived.Test.YtanibahgeedogaaMark2
namespace Go.Proofs.Ytanibahgeedogaa.lawFnExactAddedBack
open Go.RowKit Go.Proofs.Ytanibahgeedogaa
theorem backL_len (cs : List Col) : (backL cs).length ≤ 9 := by
  unfold backL
  split
  · rename_i h; have := wTake_len h; simp; exact this
  · simp
set_option maxHeartbeats 3200000 in
theorem walk (a0 : Option Addr) (len0 cap0 : Nat) (z0 : List Col) (w : World) (q0 : IsCols w a0 len0 cap0 z0) :
    Calls Try.prog 7 #[.slice a0 len0 cap0] w fun e w' => e = .returned (.bool true) ∧ Below w.heap.size w w' := by
  have hm := q0.2.1
  by_cases hl : 1048576 < len0
  · have S1 := szI_big hl
    go_enter Try.func7, Try.ntmps7
    go_wp2_with (go_at_call 12; refine (l_sz _ _ _ _ _ hm (by omega) (by omega)).mono ?_; rintro e w' ⟨rfl, rfl⟩)
    go_ret
    exact ⟨rfl, Below.refl _ _⟩
  · have hl' : len0 ≤ 1048576 := by omega
    have S1 := szI_fits hl'
    have hz : z0.length ≤ 1048576 := by rw [q0.1]; exact hl'
    have hb9 := backL_len z0
    have hbl : (backL z0).length ≤ 1048576 := by omega
    obtain ⟨bs, hbs⟩ : ∃ bs, bs = backL z0 := ⟨_, rfl⟩
    have HBS := Lib.hid hbs
    rw [← hbs] at hb9 hbl
    clear hbs
    go_enter Try.func7, Try.ntmps7
    go_wp2_with (go_at_call 12; refine (l_sz _ _ _ _ _ hm (by omega) (by omega)).mono ?_; rintro e w' ⟨rfl, rfl⟩)
    refine (l_toColumnS _ _ _ _ _ q0 hl').mono ?_
    rintro e w1 ⟨v1, rfl, c1, b1⟩
    go_wp2_with fail
    refine (s_addedBack _ z0 _ c1 hz).mono ?_
    rintro e w2 ⟨v0, rfl, o2, b2⟩
    rw [← HBS.out] at o2
    have t2 := b1.trans (b2.mono b1.size)
    clear c1 b1 b2
    go_wp2_with fail
    refine (l_toColumnM _ _ _ _ _ (q0.below t2) hl').mono ?_
    rintro e w3 ⟨x, rfl, mx, b3⟩
    have t3 := t2.trans (b3.mono t2.size)
    have hlt := mx.lt
    go_wp2_with fail
    refine (i_addedBack _ z0 _ mx.cols hz).mono ?_
    rintro e w4 ⟨gv, rfl, mg, b4⟩
    rw [← HBS.out] at mg
    have t4 := t3.trans (b4.mono t3.size)
    have u4 := b3.trans (b4.mono b3.size)
    have mx4 := mx.below b4
    clear mx b4
    go_wp2_with fail
    refine (l_eqColumnS _ _ bs _ mg.cols (OwnCols.below o2 u4).cols hbl).mono ?_
    rintro e w5 ⟨rfl, b5⟩
    have t5 := t4.trans (b5.mono t4.size)
    have u5 := u4.trans (b5.mono u4.size)
    have mx5 := mx4.below b5
    have mg5 := mg.below b5
    clear mx4 mg b5 t4 u4
    go_wp2_with fail
    refine (l_toColumnS _ _ _ _ _ (q0.below t5) hl').mono ?_
    rintro e w6 ⟨v6, rfl, c6, b6⟩
    have t6 := t5.trans (b6.mono t5.size)
    have u6 := u5.trans (b6.mono u5.size)
    have mx6 := mx5.below b6
    have mg6 := mg5.below b6
    clear mx5 mg5 b6 t5 u5
    go_wp2_with fail
    refine (l_eqColumnS _ _ z0 _ mx6.cols c6 hz).mono ?_
    rintro e w7 ⟨rfl, b7⟩
    have t7 := t6.trans (b7.mono t6.size)
    have u7 := u6.trans (b7.mono u6.size)
    have mx7 := mx6.below b7
    have mg7 := mg6.below b7
    clear mx6 mg6 c6 b7 t6 u6
    go_wp2_with fail
    refine (l_markB _ z0 _ _ _ mx7 hz hlt).mono ?_
    rintro e w8 ⟨rfl, -, hf⟩
    have t8 : Below w.heap.size w w8 := by
      rcases hf with rfl | ⟨g, hg1, hg2, hf⟩
      · exact t7
      · exact t7.trans (hf.below (Nat.le_trans t2.size hg1))
    have u8 : Below w2.heap.size w2 w8 := by
      rcases hf with rfl | ⟨g, hg1, hg2, hf⟩
      · exact u7
      · exact u7.trans (hf.below hg1)
    have mg8 : Mut w8 w3.heap.size gv bs := by
      rcases hf with rfl | ⟨g, hg1, hg2, hf⟩
      · exact mg7
      · exact mg7.far hf hg2
    clear mx7 mg7 hf t7 u7 hlt
    go_wp2_with fail
    refine (l_eqColumnS _ _ bs _ mg8.cols (OwnCols.below o2 u8).cols hbl).mono ?_
    rintro e w9 ⟨rfl, b9⟩
    have t9 := t8.trans (b9.mono t8.size)
    have u9 := u8.trans (b9.mono u8.size)
    have mg9 := mg8.below b9
    clear mg8 b9 t8 u8
    go_wp2_with fail
    refine (l_mark _ bs _ _ mg9 hbl).mono ?_
    rintro e w10 ⟨rfl, mg10, b10⟩
    have t10 := t9.trans (b10.mono t3.size)
    have u10 := u9.trans (b10.mono b3.size)
    clear mg9 b10 t9 u9
    go_wp2_with fail
    refine (l_held _ _ _ _ mg10 hbl).mono ?_
    rintro e w10' ⟨rfl, rfl⟩
    go_wp2_with fail
    refine (l_toColumnS _ _ _ _ _ (q0.below t10) hl').mono ?_
    rintro e w11 ⟨v11, rfl, c11, b11⟩
    have t11 := t10.trans (b11.mono t10.size)
    have u11 := u10.trans (b11.mono u10.size)
    have mg11 := mg10.below b11
    clear mg10 b11 t10 u10
    go_wp2_with fail
    refine (i_addedBack _ z0 _ c11 hz).mono ?_
    rintro e w12 ⟨hv, rfl, mh, b12⟩
    rw [← HBS.out] at mh
    have t12 := t11.trans (b12.mono t11.size)
    have u12 := u11.trans (b12.mono u11.size)
    have mg12 := mg11.below b12
    clear c11 mg11 b12 t11 u11
    go_wp2_with fail
    refine (l_eqColumnS _ _ bs _ mh.cols (OwnCols.below o2 u12).cols hbl).mono ?_
    rintro e w13 ⟨rfl, b13⟩
    have t13 := t12.trans (b13.mono t12.size)
    have mg13 := mg12.below b13
    clear mh mg12 b13 t12 u12 o2
    go_wp2_with fail
    refine (l_held _ _ _ _ mg13 hbl).mono ?_
    rintro e w14 ⟨rfl, rfl⟩
    go_wp2_with fail
    go_ret
    exact ⟨rfl, t13⟩
end Go.Proofs.Ytanibahgeedogaa.lawFnExactAddedBack
