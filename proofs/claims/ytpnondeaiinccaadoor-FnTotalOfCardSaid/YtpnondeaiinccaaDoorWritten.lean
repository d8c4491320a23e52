/- What the digits of transcripts tell, the last carry ahead: withCarry, WrittenOf, RowWritten. -/
import Derived.Test.YtpnondeaiinccaaDoorLeft
import Derived.Deep.RegionHeld3
import Derived.Deep.AppendLies
namespace Go.Proofs.YtpnondeaiinccaaDoor
open Go.RowKit
set_option linter.unusedVariables false
set_option maxRecDepth 100000
def withL (cs : List Col) : List Int := lastO 0 cs :: revN Col.d cs
theorem withL_length (cs : List Col) : (withL cs).length = cs.length + 1 := by simp [withL, revN_length]
theorem withL_ne (cs : List Col) : withL cs ≠ [] := by simp [withL]
theorem lastO_get : ∀ {cs : List Col} {x : Int} {c : Col}, cs[cs.length - 1]? = some c → lastO x cs = c.o
  | [], _, _, h => by simp at h
  | [d], x, c, h => by
    have : d = c := by simpa using h
    subst this; rfl
  | d :: e :: cs, x, c, h => by
    have h' : (e :: cs)[(e :: cs).length - 1]? = some c := by simpa using h
    exact lastO_get (cs := e :: cs) (x := d.o) h'
theorem below_d {B : Nat} {w w' : World} (h : Below B w w') : Below B w w'.drew := Below.drew h
theorem cols_more {w w' : World} {v : Value} {cs : List Col} (h : Cols w w.heap.size v cs) (hb : Below w.heap.size w w') : Cols w' w'.heap.size v cs := (h.below hb).more hb.size
def strTxt (o : Option ByteArray) : ByteArray := o.getD ⟨#[]⟩
theorem strOk_eq (o : Option ByteArray) : strOk o = .returned (.tuple #[.string (strTxt o), .bool o.isSome]) := by cases o <;> rfl
theorem i_plain2 (v : Value) (ds : List Int) (w : World) (hv : Ints w w.heap.size v ds) (hl : ds.length ≤ 1000) (hd : Dig ds) :
    Calls Tryd.prog 62 #[v] w fun e w' => e = .returned (.tuple #[.string (strTxt (plainO ds)), .bool (plainO ds).isSome]) ∧ Below w.heap.size w w' := by
  rw [← strOk_eq]; exact i_plain v ds w hv hl hd
/-- the one number of the carry, laid ahead of the digits or behind them -/
theorem lit_first {w w1 : World} {o : Int} (hb1 : Below (w.alloc (.cells #[.int .i64 o] 3)).drew.heap.size (w.alloc (.cells #[.int .i64 o] 3)).drew w1) :
    w1.ownsRow w.heap.size 3 1 (.slice (some ⟨w.heap.size, 0, none⟩) 1 1) 1 [.int .i64 o] ∧ Below w.heap.size w w1 := by
  have h1 : (w.alloc (.cells #[.int .i64 o] 3)).ownsRow w.heap.size 3 1 (.slice (some ⟨w.heap.size, 0, none⟩) 1 1) 1 [.int .i64 o] := World.ownsRow_lit w #[.int .i64 o] 1 (Nat.le_refl _) (by unfold maxLen; omega) rfl
  have hb2 : Below (w.alloc (.cells #[.int .i64 o] 3)).heap.size (w.alloc (.cells #[.int .i64 o] 3)) w1 := (below_d (Below.refl _ _)).trans hb1
  have hb3 : Below w.heap.size w (w.alloc (.cells #[.int .i64 o] 3)) := (Below.refl _ _).alloc (Nat.le_refl _) _
  exact ⟨row_below h1 hb2, hb3.trans (hb2.mono hb3.size)⟩
theorem lit_last {w w1 : World} {o : Int} (hb1 : Below w.drew.heap.size w.drew w1) :
    (w1.alloc (.cells #[.int .i64 o] 3)).ownsRow w.heap.size 3 1 (.slice (some ⟨w1.heap.size, 0, none⟩) 1 1) 1 [.int .i64 o] ∧ Below w.heap.size w (w1.alloc (.cells #[.int .i64 o] 3)) := by
  have hb2 : Below w.heap.size w w1 := (below_d (Below.refl _ _)).trans hb1
  exact ⟨World.ownsRow_lit w1 #[.int .i64 o] 1 hb2.size (by unfold maxLen; omega) rfl, hb2.alloc hb2.size _⟩
theorem row_some {w : World} {base : Nat} {e : TypeId} {size : Nat} {v : Value} {k : Nat} {xs : List Value} (h : w.ownsRow base e size v k xs) (hk : 0 < k) : ∃ g cap, v = .slice (some ⟨g, 0, none⟩) k cap := by
  rcases h.2 with ⟨_, h0⟩ | ⟨g, cap, _, rfl, _⟩
  · omega
  · exact ⟨g, cap, rfl⟩
theorem row_news {w : World} {base : Nat} {e : TypeId} {g n cap : Nat} {xs : List Value} (h : w.ownsRow base e 1 (.slice (some ⟨g, 0, none⟩) n cap) n xs) : ∀ j u, xs[j]? = some u → w.cell? ((⟨g, 0, none⟩ : Addr).add j) = some u := by
  intro j u hj
  have hl : j < xs.length := (List.getElem?_eq_some_iff.1 hj).1
  have hadd : (⟨g, 0, none⟩ : Addr).add j = ⟨g, j, none⟩ := by unfold Addr.add; split <;> simp_all
  rw [hadd, World.ownsRow.cellAt h j (by have := h.1; omega), hj]
theorem ints_with {w : World} {base : Nat} {v : Value} {cs : List Col} {o : Int} {k : Nat} (ho : lastO 0 cs = o) (hk : k = (revN Col.d cs).length) (h : w.ownsRow base 3 1 v (1 + k) ([.int .i64 o] ++ (revN Col.d cs).map (Value.int .i64))) : Ints w w.heap.size v (withL cs) := by
  subst hk
  have e1 : (withL cs).map (Value.int .i64) = [.int .i64 o] ++ (revN Col.d cs).map (Value.int .i64) := by unfold withL; rw [ho]; rfl
  have e2 : (withL cs).length = 1 + (revN Col.d cs).length := by unfold withL; simp; omega
  rw [← e1, ← e2] at h
  exact Ints.of_own h
theorem one_int {ds : List Int} : ∀ u ∈ ds.map (Value.int .i64), u.oneCell' = true := by
  intro u hu
  obtain ⟨d, _, rfl⟩ := List.mem_map.1 hu
  rfl
set_option maxRecDepth 100000 in
set_option maxHeartbeats 1600000 in
theorem i_withCarry (v : Value) (cs : List Col) (w : World) (hv : Cols w w.heap.size v cs) (hne : cs ≠ []) (hl : cs.length ≤ 9) (hd : Dig (withL cs)) :
    Calls Tryd.prog 86 #[v] w fun e w' => e = strOk (plainO (withL cs)) ∧ Below w.heap.size w w' := by
  obtain ⟨A, cap, rfl, hc⟩ := id hv
  obtain ⟨g, rfl, hg, hcell⟩ := hc hne
  have hpos : 0 < cs.length := by
    rcases Nat.eq_zero_or_pos cs.length with h | h
    · exact absurd (List.eq_nil_of_length_eq_zero h) hne
    · exact h
  obtain ⟨m, hm⟩ : ∃ m, m = cs.length - 1 := ⟨_, rfl⟩
  obtain ⟨c, hcm⟩ : ∃ c, cs[m]? = some c := ⟨_, List.getElem?_eq_getElem (by omega)⟩
  obtain ⟨_, _, _, _, h4⟩ := hcell m c hcm
  have HO := Lib.hid (lastO_get (x := 0) (by rw [← hm]; exact hcm))
  have e1 : IntKind.i64.wrap ((cs.length : Int) - 1) = (m : Int) := by rw [IntWalk.i64_in _ (by omega)]; omega
  have hmc : m < cs.length := by omega
  have HV := Lib.hid hv
  have HD := Lib.hid hd
  obtain ⟨i0, hi0, hz0, hz1, hz2⟩ := info_parts info_int
  clear hcell hcm hm hv hd hc hne
  have hnew := World.new_ne w ⟨g, m * 5 + 4, none⟩ h4
  go_enter Tryd.func86, Tryd.ntmps86
  go_wp2
  go_region_held3 (fun w' => w'.cell? ⟨g, m * 5 + 4, none⟩ = some (.int .i64 c.o)) (first | assumption | go_keep)
    (first
      | (go_at_call 63; refine (i_numbersD _ cs _ (cols_more HV.out (below_d (Below.refl _ _))) (by omega)).mono ?_; rintro e w1 ⟨u, rfl, hu, hb1⟩; obtain ⟨gu, cu, rfl⟩ := row_some hu (by rw [revN_length]; omega); have hS : w1.cell? ⟨g, m * 5 + 4, none⟩ = some (.int .i64 c.o) := (hb1.cell (p := ⟨g, _, none⟩) hg).trans h4)
      | (go_at_call 63; refine (i_numbersD _ cs _ (cols_more HV.out (below_d ((Below.refl _ _).alloc (Nat.le_refl _) _))) (by omega)).mono ?_; rintro e w1 ⟨u, rfl, hu, hb1⟩; obtain ⟨gu, cu, rfl⟩ := row_some hu (by rw [revN_length]; omega); have hS : w1.cell? ⟨g, m * 5 + 4, none⟩ = some (.int .i64 c.o) := ((lit_first hb1).2.cell (p := ⟨g, _, none⟩) hg).trans h4)
      | (go_at_call 62; refine (i_plain2 _ _ _ hI2 (by rw [withL_length]; omega) HD.out).mono ?_; rintro e w3 ⟨rfl, hb3⟩; have hb13 := hb2.trans (hb3.mono hb2.size); have hS : w3.cell? ⟨g, m * 5 + 4, none⟩ = some (.int .i64 c.o) := (hb13.cell (p := ⟨g, _, none⟩) hg).trans h4)
      | (have hL := lit_first hb1; refine step_append_lies _ rfl (.tmp 11) (.tmp 13) 59 rfl w.heap.size 3 i0 (.int .i64 0) 1 8 Tryd.underlying59 hi0 hz0 hz1 hz2 rfl (by decide) (.slice (some ⟨w.heap.size, 0, none⟩) 1 1) 1 [.int .i64 c.o] (by simp [Act.eval]) hL.1 ⟨gu, 0, none⟩ (revN Col.d cs).length cu ((revN Col.d cs).map (Value.int .i64)) (by simp [Act.eval]) (by simp) (row_news hu) one_int (by rw [revN_length]; omega) (by rw [revN_length]; unfold maxLen; omega) (by rw [revN_length]; omega) hL.2.size _ rfl ?_; intro g2 cap2 w2 hown2 hgrow2 _ _; have hI2 := ints_with HO.out rfl hown2; have hb2 := hL.2.grown hgrow2 hL.2.size (fun k hk => (hL.1.lt k hk).1); have hS : w2.cell? ⟨g, m * 5 + 4, none⟩ = some (.int .i64 c.o) := (hb2.cell (p := ⟨g, _, none⟩) hg).trans h4)
      | (have hL := lit_last (o := c.o) hb1; refine step_append_lies _ rfl (.tmp 11) (.tmp 13) 59 rfl w.heap.size 3 i0 (.int .i64 0) 1 8 Tryd.underlying59 hi0 hz0 hz1 hz2 rfl (by decide) (.slice (some ⟨w1.heap.size, 0, none⟩) 1 1) 1 [.int .i64 c.o] (by simp [Act.eval]) hL.1 ⟨gu, 0, none⟩ (revN Col.d cs).length cu ((revN Col.d cs).map (Value.int .i64)) (by simp [Act.eval]) (by simp) (row_news (hu.alloc (.cells #[.int .i64 c.o] 3))) one_int (by rw [revN_length]; omega) (by rw [revN_length]; unfold maxLen; omega) (by rw [revN_length]; omega) hL.2.size _ rfl ?_; intro g2 cap2 w2 hown2 hgrow2 _ _; have hI2 := ints_with HO.out rfl hown2; have hb2 := hL.2.grown hgrow2 hL.2.size (fun k hk => (hL.1.lt k hk).1); have hS : w2.cell? ⟨g, m * 5 + 4, none⟩ = some (.int .i64 c.o) := (hb2.cell (p := ⟨g, _, none⟩) hg).trans h4))
  all_goals
    go_wp2
    go_ret2
    exact ⟨(strOk_eq _).symm, hb13⟩
def writtenO (cs : List Col) : Option ByteArray := if cs = [] ∨ wAdd cs ≠ -1 then none else plainO (withL cs)
theorem writtenO_nil : writtenO [] = none := rfl
theorem writtenO_no {cs : List Col} (h : wAdd cs ≠ -1) : writtenO cs = none := by unfold writtenO; rw [if_pos (.inr h)]
theorem writtenO_ok {cs : List Col} (hne : cs ≠ []) (h : wAdd cs = -1) : writtenO cs = plainO (withL cs) := by unfold writtenO; rw [if_neg (by simp [hne, h])]
def rowO (cs : List Col) : Option ByteArray := if wRow cs ≠ -1 then none else plainO (withL cs)
theorem rowO_no {cs : List Col} (h : wRow cs ≠ -1) : rowO cs = none := by unfold rowO; rw [if_pos h]
theorem rowO_ok {cs : List Col} (h : wRow cs = -1) : rowO cs = plainO (withL cs) := by unfold rowO; rw [if_neg (by simp [h])]
theorem lastO_mem : ∀ {cs : List Col} (x : Int), cs ≠ [] → ∃ c ∈ cs, lastO x cs = c.o
  | [], _, h => absurd rfl h
  | [c], x, _ => ⟨c, by simp, rfl⟩
  | c :: d :: cs, x, _ => by
    obtain ⟨e, he, h⟩ := lastO_mem (cs := d :: cs) c.o (by simp)
    exact ⟨e, List.mem_cons_of_mem _ he, h⟩
theorem with_dig {cs : List Col} (hne : cs ≠ []) (hd : allD Col.d cs) (ho : ∀ c ∈ cs, 0 ≤ c.o ∧ c.o ≤ 9) : Dig (withL cs) := by
  intro d hm
  rcases List.mem_cons.1 hm with rfl | hm
  · obtain ⟨c, hc, e⟩ := lastO_mem (cs := cs) 0 hne
    rw [e]; exact ho c hc
  · exact Dig_rev hd d hm
theorem wAdd_dig {cs : List Col} (hne : cs ≠ []) (h : wAdd cs = -1) : Dig (withL cs) ∧ cs.length ≤ 9 := by
  have hs := ok_single (fun _ hr => (rAdd_iff.1 hr).1) cs 0 (wAdd_ok h).2
  exact ⟨with_dig hne (single_allD hs).2.2 (fun c hc => by have := (singleB_iff.1 (hs c hc)).2.2.2.2; omega), (wAdd_ok h).1⟩
theorem ok_good {b0 : Int} : ∀ (cs : List Col) (x : Int), okFrom (rRow b0) x cs → ∀ c ∈ cs, goodB c = true
  | [], _, _ => fun c hc => by simp at hc
  | d :: cs, x, h => fun c hc => by
    rcases List.mem_cons.1 hc with rfl | hc
    · exact (rRow_iff.1 h.2.1).1
    · exact ok_good cs d.o h.2.2 c hc
theorem wRow_dig {cs : List Col} (h : wRow cs = -1) : Dig (withL cs) ∧ (1 ≤ cs.length ∧ cs.length ≤ 9) := by
  have hg := ok_good cs 0 (wRow_ok h).2
  have hne : cs ≠ [] := fun e => by have := (wRow_ok h).1.1; rw [e] at this; simp at this
  exact ⟨with_dig hne (fun c hc => (goodB_iff.1 (hg c hc)).2.2.2.1) (fun c hc => (goodB_iff.1 (hg c hc)).2.2.2.2), (wRow_ok h).1⟩
theorem trimS_with {cs : List Col} (hd : Dig (withL cs)) (hpos : 0 < cs.length) : trimS ⟨(digB (withL cs)).toArray⟩ = decS (val (digB (withL cs))) := by
  have hz := trimZ_dec (digB_all hd)
  have hs : ByteArray.size ⟨(digB (withL cs)).toArray⟩ = cs.length + 1 := by
    show (digB (withL cs)).toArray.size = _
    rw [List.size_toArray]; simp [digB, withL_length]
  unfold trimS decS
  rw [if_neg (by omega), hz]
theorem digB_with (cs : List Col) : digB (withL cs) = byteOf (lastO 0 cs) :: digs Col.d cs := by
  unfold withL
  show byteOf (lastO 0 cs) :: digB (revN Col.d cs) = _
  rw [digB_revN]
def headT (o : Int) (cs : List Col) : ByteArray := ⟨(byteOf o :: digs Col.d cs).toArray⟩
theorem headT_size (o : Int) (cs : List Col) : (headT o cs).size = cs.length + 1 := by
  show (byteOf o :: digs Col.d cs).toArray.size = _
  rw [List.size_toArray, List.length_cons, digs_length]
theorem headT_snoc {o : Int} {cs : List Col} {m : Nat} {c : Col} (h : cs[m]? = some c) : headT o (cs.drop (m + 1)) ++ ⟨[byteOf c.d].toArray⟩ = headT o (cs.drop m) := by
  unfold headT
  rw [ba_snoc, List.cons_append, digs_drop Col.d h]
theorem plainO_with_ok {cs : List Col} (h : val (digB (withL cs)) < 1000000000) : plainO (withL cs) = some (decS (val (digB (withL cs)))) := plainO_ok (withL_ne cs) h
set_option maxHeartbeats 1600000 in
theorem i_writtenOf (v : Value) (cs : List Col) (w : World) (hv : Cols w w.heap.size v cs) (hl : cs.length ≤ 1048576) :
    Calls Tryd.prog 48 #[v] w fun e w' => e = strOk (writtenO cs) ∧ Below w.heap.size w w' := by
  obtain ⟨A, cap, rfl, hc⟩ := id hv
  by_cases hne : cs = []
  · subst hne
    go_enter Tryd.func48, Tryd.ntmps48
    go_wp2
    go_ret2
    exact ⟨rfl, Below.refl _ _⟩
  · have hpos : 0 < cs.length := by
      rcases Nat.eq_zero_or_pos cs.length with h | h
      · exact absurd (List.eq_nil_of_length_eq_zero h) hne
      · exact h
    have t0 : ((cs.length : Int) == 0) = false := by simp; omega
    by_cases hw : wAdd cs = -1
    · obtain ⟨hd, h9⟩ := wAdd_dig hne hw
      have H := Lib.hid (congrArg strOk (writtenO_ok hne hw).symm)
      have t1 : (wAdd cs != -1) = false := by simp [hw]
      have HD := Lib.hid hd
      have HV := Lib.hid hv
      have hne' := Lib.hid hne
      clear hw hc hd hv hne
      go_enter Tryd.func48, Tryd.ntmps48
      go_wp2_with (go_at_call 34; refine (i_wrongColumn _ cs _ HV.out hl).mono ?_; rintro e w1 ⟨rfl, hb1⟩)
      refine (i_withCarry _ cs _ ((HV.out.below hb1).more hb1.size) hne'.out (by omega) HD.out).mono ?_
      rintro e w2 ⟨he, hb2⟩
      rw [strOk_eq] at he
      subst he
      go_wp2_with fail
      go_ret2
      exact ⟨(strOk_eq _).symm.trans H.out, hb1.trans (hb2.mono hb1.size)⟩
    · have H := Lib.hid (strOk_none (writtenO_no hw))
      have t1 : (wAdd cs != -1) = true := by simp [hw]
      clear hw
      go_enter Tryd.func48, Tryd.ntmps48
      go_wp2_with (go_at_call 34; refine (i_wrongColumn _ cs _ hv hl).mono ?_; rintro e w1 ⟨rfl, hb1⟩)
      go_ret2
      exact ⟨H.out, hb1⟩
end Go.Proofs.YtpnondeaiinccaaDoor
