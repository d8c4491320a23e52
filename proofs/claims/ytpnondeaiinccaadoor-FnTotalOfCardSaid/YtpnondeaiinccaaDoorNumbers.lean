/- Walk of impl.numbers: a number of each column, from the back to the front. -/
import Derived.Test.YtpnondeaiinccaaDoorIter
import Derived.Shelf.AbstractIn
import Derived.Shelf.RegionOpen
import Derived.RegionIn
import Derived.Lib.Hide
namespace Go.Proofs.YtpnondeaiinccaaDoor
open Go.RowKit Go.Shelf
set_option linter.unusedVariables false
set_option maxRecDepth 100000
attribute [local go_sem] Oper.semAt_some
theorem info_int : (Tryd.prog.info? 3).map (fun i => (i.zero, i.size, i.bytes)) = some (some (.int .i64 0), 1, 8) := by kernel_rfl
/-- a column of the loop's own -/
def BoxC (W : World) (b : Nat) (c : Col) : Prop := W.heap[b]? = some (.cells #[.int .i64 c.a, .int .i64 c.b, .int .i64 c.i, .int .i64 c.d, .int .i64 c.o] 44 (0, 0))
theorem BoxC.lt {W : World} {b : Nat} {c : Col} (h : BoxC W b c) : b < W.heap.size := (Array.getElem?_eq_some_iff.1 h).1
theorem BoxC.kept {W W' : World} {row : Option Nat} {b : Nat} {c : Col} (h : BoxC W b c) (hg : W.grownBy W' row) (hrow : ∀ r, row = some r → ∃ o : Obj, W.heap[r]? = some o ∧ o.isCells = false) : BoxC W' b c :=
  (hg.block b h.lt (fun e' => by obtain ⟨o, ho, hc⟩ := hrow b e'.symm; rw [show W.heap[b]? = _ from h] at ho; cases ho; cases hc)).trans h
theorem BoxC.cell {W : World} {b : Nat} {c : Col} (h : BoxC W b c) : ColCells W b 0 c := by
  have at_ : ∀ i, W.cell? ⟨b, i, none⟩ = (#[Value.int .i64 c.a, .int .i64 c.b, .int .i64 c.i, .int .i64 c.d, .int .i64 c.o])[i]? := fun i => cell_of_row W b i _ _ (0, 0) h
  exact ⟨at_ 0, at_ 1, at_ 2, at_ 3, at_ 4⟩
def gotten (g : Col → Int) (pre : List (Int × Col)) : List Value := pre.map fun x => .int .i64 (g x.2)
theorem step_append_in {F : Fence} {n : Nat} {P : Program} {w : World} {ops : Array Oper} {o : Oper} {a : Act} {K : Act → World → Prop} {Q : Exit → Act → World → Prop} {E : Prop}
    (hg : o.guard = none) (s x : Operand) (t : TypeId) (hop : o.op = Op.call { callee := Callee.builtin Builtin.append, args := #[s, x], argTypes := #[t, t] })
    (base : Nat) (e : TypeId) (i : TypeInfo) (z : Value) (size bytes : Nat) (h1 : P.underlying t = some (.slice e)) (h2 : P.info? e = some i) (h3 : i.zero = some z) (h4 : i.size = size) (h5 : i.bytes = bytes) (h6 : z.cells.size = size) (h7 : 0 < size)
    (v : Value) (k : Nat) (xs : List Value) (hs : a.eval s = v) (hown : w.ownsRow base e size v k xs) (ad : Addr) (m c : Nat) (news : List Value) (hx : a.eval x = .slice (some ad) m c) (hn : news.length = m * size)
    (hc : ∀ j u, news[j]? = some u → w.cell? (ad.add j) = some u) (h1c : ∀ u ∈ news, u.oneCell' = true) (b1 : k + m ≤ maxLen) (b2 : (k + m) * bytes ≤ 140737488355328) (b3 : base ≤ w.heap.size)
    (hK : ∀ v' w', w'.ownsRow base e size v' (k + m) (xs ++ news) → w.grownBy w' v.ownBlock → K (a.put o.dst v') w') :
    if Region.wanted o (yielded ops a.tmps) = true then Oper.wpIn F n P o a w K Q else E := by
  have hw : Region.wanted o (yielded ops a.tmps) = true := by simp [Region.wanted, hg]
  rw [if_pos hw]
  obtain ⟨v', w', hrun, r1, r2, _⟩ := run_append_own (P := P) w base t o.type e i z size bytes h1 h2 h3 h4 h5 h6 h7 v k xs hown ad m c news hn hc h1c b1 b2 b3
  unfold Oper.wpIn
  refine ⟨?_, ?_⟩
  · simp [Oper.about, hop, resolve, Target.leads, Sem.run_pure]
  · rw [Oper.semAt_plain F _ _ (by rw [hop]; intro c hc'; cases hc')]
    simp [execOp, hop, resolve, invoke, builtin, hs, hx, hrun, Result.andThen]
    exact hK v' w' r1 r2
theorem box_below {W w1 : World} {B : Nat} {t : TypeId} {v : Value} (h : Boxed W B t v) (hb : Below W.heap.size W w1) : Boxed w1 B t v := (hb.block B h.lt).trans h
theorem row_below {W w1 : World} {base : Nat} {e : TypeId} {size : Nat} {v : Value} {n : Nat} {xs : List Value} (h : W.ownsRow base e size v n xs) (hb : Below W.heap.size W w1) : w1.ownsRow base e size v n xs := by
  refine ⟨h.1, ?_⟩
  rcases h.2 with h0 | ⟨g, cap, cur, hv, hg, hh, hr⟩
  · exact .inl h0
  · exact .inr ⟨g, cap, cur, hv, hg, (hb.block g (Array.getElem?_eq_some_iff.1 hh).1).trans hh, hr⟩
theorem keeps_below {B : Nat} {W w1 : World} (hb : Below W.heap.size W w1) : KeepsFrom B W w1 := ⟨hb.size, fun k o _ hk _ => (hb.block k (Array.getElem?_eq_some_iff.1 hk).1).trans hk⟩
theorem fin_numbers {g : Col → Int} {w W w1 Wf : World} {B : Nat} {u v' ofv sv : Value} {tf to tl ti : TypeId} {pre : List (Int × Col)} {x : Int × Col}
    (hu : Boxed W (w.heap.size + 1) to u) (hF : Boxed W w.heap.size tf ofv) (hL : Boxed W (w.heap.size + 1 + 1) tl sv) (hrow : W.ownsRow w.heap.size ti 1 u pre.length (gotten g pre)) (hB : Below w.heap.size w W)
    (hb1 : Below W.heap.size W w1) (hv2 : Boxed Wf (w.heap.size + 1) to v') (hr2 : Wf.ownsRow w.heap.size ti 1 v' (pre.length + 1) (gotten g pre ++ [.int .i64 (g x.2)])) (hk2 : KeepsOthers w1 Wf) (hb2 : Below w.heap.size w1 Wf)
    (bF2 : Boxed Wf w.heap.size tf ofv) (bL2 : Boxed Wf (w.heap.size + 1 + 1) tl sv) (hs : w.heap.size ≤ W.heap.size) :
    KeepsFrom B W Wf ∧ KpB w.heap.size (w.heap.size + 1 + 1) W Wf ∧
      ((∃ u, Boxed Wf (w.heap.size + 1) to u ∧ Wf.ownsRow w.heap.size ti 1 u (pre ++ [x]).length (gotten g (pre ++ [x])) ∧ True) ∧ Boxed Wf w.heap.size tf ofv ∧ Boxed Wf (w.heap.size + 1 + 1) tl sv) ∧ Below w.heap.size w Wf := by
  refine ⟨(keeps_below hb1).trans (hk2.from _), ⟨(hb1.mono hs).trans hb2, (show Wf.heap[_]? = _ from bL2).trans (show W.heap[_]? = _ from hL).symm⟩, ⟨⟨v', hv2, ?_, trivial⟩, bF2, bL2⟩, (hB.trans (hb1.mono hs)).trans hb2⟩
  have e1 : (pre ++ [x]).length = pre.length + 1 := by simp
  have e2 : gotten g (pre ++ [x]) = gotten g pre ++ [.int .i64 (g x.2)] := by simp [gotten]
  rw [e1, e2]; exact hr2
set_option maxRecDepth 100000 in
set_option maxHeartbeats 2000000 in
theorem i_numbers_in (fo : FuncId) (g : Col → Int) (he : ∀ args w, (callFunc fo args).run Tryd.prog w = .ok (.enter fo args) w) (hof : ∀ (c : Col) (W : World), Calls Tryd.prog fo #[.agg #[.int .i64 c.a, .int .i64 c.b, .int .i64 c.i, .int .i64 c.d, .int .i64 c.o]] W fun e w' => e = .returned (.int .i64 (g c)) ∧ Below W.heap.size W w')
    (v : Value) (cs : List Col) (w : World) (hv : Cols w w.heap.size v cs) (hl : cs.length ≤ 1048576) :
    CallsIn Fence.wide 9 Tryd.prog 63 #[v, .func (.func fo) #[] #[]] w fun e w' => ∃ u, e = .returned u ∧ w'.ownsRow w.heap.size 3 1 u cs.length (gotten g (backP cs cs.length)) ∧ Below w.heap.size w w' := by
  have hro : Fence.wide.round = none := rfl
  obtain ⟨i0, hi, hz0, hz1, hz2⟩ := info_parts info_int
  obtain ⟨A, cap, rfl, hcs⟩ := id hv
  have hfb : Fence.wide.fn 95 := trivial
  have hfo : Fence.wide.fn fo := trivial
  refine callsIn_of_wp_marks Tryd.func63 rfl trivial ?_ hro
  simp only [Tryd.ntmps63, List.size_toArray, List.length_cons, List.length_nil, Nat.reduceAdd, Nat.reduceSub, Array.replicate_succ, Array.replicate_zero, List.push_toArray, List.append_toArray, List.nil_append, List.cons_append]
  gi_wp2_with (gi_at_call 95; refine (backward_in _ _ _ _ _).mono ?_; rintro e w' ⟨rfl, rfl⟩)
  have bF := Boxed.new w 61 (.func (.func fo) #[] #[])
  have bO := Boxed.new (w.alloc (.cells #[.func (.func fo) #[] #[]] 61)) 59 (.slice none 0 0)
  have bL := Boxed.new ((w.alloc (.cells #[.func (.func fo) #[] #[]] 61)).alloc (.cells #[.slice none 0 0] 59)) 33 (.slice A cs.length cap)
  rw [World.size_alloc] at bO
  rw [World.size_alloc, World.size_alloc] at bL
  have hB0 : Below w.heap.size w (((w.alloc (.cells #[.func (.func fo) #[] #[]] 61)).alloc (.cells #[.slice none 0 0] 59)).alloc (.cells #[.slice A cs.length cap] 33)) := (((Below.refl _ w).alloc (Nat.le_refl _) _).alloc (by simp) _).alloc (by simp; omega) _
  have hsz : (((w.alloc (.cells #[.func (.func fo) #[] #[]] 61)).alloc (.cells #[.slice none 0 0] 59)).alloc (.cells #[.slice A cs.length cap] 33)).heap.size = w.heap.size + 3 := by simp
  have bF := (bF.alloc (.cells #[.slice none 0 0] 59)).alloc (.cells #[.slice A cs.length cap] 33)
  have bO := bO.alloc (.cells #[.slice A cs.length cap] 33)
  obtain ⟨W0, hW0⟩ : ∃ W0, ((w.alloc (.cells #[.func (.func fo) #[] #[]] 61)).alloc (.cells #[.slice none 0 0] 59)).alloc (.cells #[.slice A cs.length cap] 33) = W0 := ⟨_, rfl⟩
  rw [hW0] at bF bO bL hB0 hsz ⊢
  clear hW0
  have h9 : 1 ≤ 9 := by omega
  refine wpIn_rangeFunc_ownH hro h9 (gf := 110) (lb := #[.pointer (some ⟨w.heap.size + 1 + 1, 0, none⟩)]) rfl trivial (enters_of Tryd.func110 (by kernel_rfl) rfl)
    (backward_stops (9 - 1) (by omega) (w.heap.size + 1 + 1) w.heap.size _ cs hl W0 (by omega) (by omega) bL.cell (hv.below hB0)) KpB.trans (kpB_b (by omega) (by omega)) (Below.refl _ _) (fun _ => rfl)
    (fun pre W => ((∃ u, Boxed W (w.heap.size + 1) 59 u ∧ W.ownsRow w.heap.size 3 1 u pre.length (gotten g pre) ∧ True) ∧ Boxed W w.heap.size 61 (.func (.func fo) #[] #[]) ∧ Boxed W (w.heap.size + 1 + 1) 33 (.slice A cs.length cap)) ∧ Below w.heap.size w W)
    (fun _ _ _ => False)
    (OwnFrom.and (OwnFrom.and (Own.from (holdsRow_own w.heap.size (w.heap.size + 1) 59 3 1 (fun pre => pre.length) (gotten g) (fun _ _ => True)) _) (OwnFrom.and (Own.from (boxed_own _ _ _) _) (Own.from (boxed_own _ _ _) _))) (ownFrom_below (Nat.le_refl _) (by omega)))
    (fun _ _ _ _ _ hs _ _ => hs)
    ⟨⟨⟨_, bO, World.ownsRow_nil _ _ _ _, trivial⟩, bF, bL⟩, hB0⟩
    (fun x a' W => ∃ Bx, w.heap.size + 1 + 1 < Bx ∧ BoxC W Bx x.2 ∧ a' = { tmps := #[.slice A cs.length cap, .func (.func fo) #[] #[], undef, .pointer (some ⟨w.heap.size, 0, none⟩), .slice none 0 0, .pointer (some ⟨w.heap.size + 1, 0, none⟩), undef, .pointer (some ⟨Bx, 0, none⟩), .slice A cs.length cap, .func (.func 110) #[] #[.pointer (some ⟨w.heap.size + 1 + 1, 0, none⟩)], .int .i64 x.1, .agg #[.int .i64 x.2.a, .int .i64 x.2.b, .int .i64 x.2.i, .int .i64 x.2.d, .int .i64 x.2.o], undef, undef, undef, undef, undef, undef, undef], defers := [] })
    (fun x a' _ X Y row hs hg hr => by obtain ⟨Bx, h1, h2, h3⟩ := hs; exact ⟨Bx, h1, h2.kept hg (fun r e => (hr r e).2), h3⟩)
    ?assign ?body ?done ?stop
  case assign =>
    rintro l pre x W K ⟨⟨⟨u, hu, hrow, -⟩, hF, hL⟩, hB⟩ hK
    have hul := hL.lt
    simp only [encs]
    gi_wp2
    refine hK _ _ ((KeepsOthers.alloc _ _).from _) ⟨(Below.refl _ W).alloc hB.size _, Below.heap_alloc W _ _ hul⟩ ⟨⟨⟨u, hu.alloc _, hrow.alloc _, trivial⟩, hF.alloc _, hL.alloc _⟩, hB.alloc hB.size _⟩ ⟨W.heap.size, hul, World.alloc_heap_new W _, ?_⟩
    rfl
  case body =>
    --@body
    rintro l pre x a' W hl' ⟨r, hr⟩ ⟨⟨⟨u, hu, hrow, -⟩, hF, hL⟩, hB⟩ ⟨Bx, hBx, hX, rfl⟩ hlt
    have cO := hu.cell
    have cF := hF.cell
    obtain ⟨x0, x1, x2, x3, x4⟩ := hX.cell
    simp only [Nat.zero_mul, Nat.zero_add] at x0 x1 x2 x3 x4
    have hsW := hB.size
    have hmx : Tryd.prog.follows .mixedOrders = true := by kernel_rfl
    gi_wp2
    refine wpIn_region_any hmx ?_
    change wpAnyIn _ _ _ _ _ _ _ _ _ (World.drew _)
    refine wpAnyIn_ready (rs := [0, 1, 2]) (by kernel_rfl) (by simp) ?_
    refine AllReadyIn.cons rfl (fun K hK => ?_) ?_
    · skip
      go_simp
      refine hK _ _ ?_
      clear hK K
      refine wpAnyIn_ready (rs := [1, 2]) (by kernel_rfl) (by simp) ?_
      refine AllReadyIn.cons rfl (fun K hK => ?_) ?_
      · skip
        go_simp
        refine hK _ _ ?_
        clear hK K
        refine wpAnyIn_ready (rs := [2]) (by kernel_rfl) (by simp) ?_
        refine AllReadyIn.cons rfl (fun K hK => ?_) ?_
        · skip
          go_simp
          refine hK _ _ ?_
          clear hK K
          refine wpAnyIn_ready (rs := [3]) (by kernel_rfl) (by simp) ?_
          refine AllReadyIn.cons rfl (fun K hK => ?_) ?_
          · skip
            go_simp
            gi_wp2_with (gi_at_fn fo; refine (CallsIn.inRound l (callsIn_wide.2 (hof x.2 _))).mono ?_; rintro e w1 ⟨rfl, hb1⟩)
            have hb1 : Below W.heap.size W w1 := (Below.drew (Below.refl W.heap.size W)).trans (show Below W.heap.size W.drew w1 from hb1)
            have bO1 := box_below hu hb1
            have bF1 := box_below hF hb1
            have bL1 := box_below hL hb1
            have hrow1 := row_below hrow hb1
            have hs1 : W.heap.size ≤ w1.heap.size := hb1.size
            have cO1 := bO1.cell
            have cO2 := (bO1.alloc (.cells #[.int .i64 (g x.2)] 3)).cell
            refine wpAnyIn_ready (rs := [4]) (by kernel_rfl) (by simp) ?_
            refine AllReadyIn.cons rfl (fun K hK => ?_) ?_
            · skip
              go_simp
              refine hK _ _ ?_
              clear hK K
              refine wpAnyIn_ready (rs := [5]) (by kernel_rfl) (by simp) ?_
              refine AllReadyIn.cons rfl (fun K hK => ?_) ?_
              · skip
                refine step_append_in rfl (.tmp 12) (.tmp 16) 59 rfl w.heap.size 3 i0 (.int .i64 0) 1 8 Tryd.underlying59 hi hz0 hz1 hz2 rfl (by decide) u pre.length (gotten g pre) (by simp [Act.eval]) (hrow1.alloc _) ⟨w1.heap.size, 0, none⟩ 1 1 [.int .i64 (g x.2)] (by simp [Act.eval]) rfl (cell_one_new _ _ _) (by simp [Value.oneCell']) (by unfold maxLen; omega) (by omega) (by simp; omega) ?_
                intro v' w2 hown' hgrow
                obtain ⟨g', cap', rfl⟩ := ownsRow_succ hown'
                obtain ⟨hv1, hv2, hr2, hk2, hb2⟩ := bO1.appended (by decide) hrow1 (by omega) (by omega) hown' hgrow
                have bF2 := ((bF1.alloc _).kept hgrow (bF1.not_row (by decide) hrow1)).other (B' := w.heap.size + 1) (by omega) (.slice (some ⟨g', 0, none⟩) (pre.length + 1) cap')
                have bL2 := ((bL1.alloc _).kept hgrow (bL1.not_row (by decide) hrow1)).other (B' := w.heap.size + 1) (by omega) (.slice (some ⟨g', 0, none⟩) (pre.length + 1) cap')
                have hc2 := hv1.cell
                have hf2 := hv1.frozen
                refine hK _ _ ?_
                clear hK K hown' hgrow
                refine wpAnyIn_ready (rs := [6]) (by kernel_rfl) (by simp) ?_
                refine AllReadyIn.cons rfl (fun K hK => ?_) ?_
                · skip
                  go_simp
                  refine hK _ _ ?_
                  clear hK K
                  refine wpAnyIn_done (by kernel_rfl) ?_ _
                  exact fin_numbers hu hF hL hrow hB hb1 hv2 hr2 hk2 hb2 bF2 bL2 (by omega)
                exact AllReadyIn.nil
              exact AllReadyIn.nil
            exact AllReadyIn.nil
          exact AllReadyIn.nil
        exact AllReadyIn.nil
      refine AllReadyIn.cons rfl (fun K hK => ?_) ?_
      · skip
        go_simp
        refine hK _ _ ?_
        clear hK K
        refine wpAnyIn_ready (rs := [1]) (by kernel_rfl) (by simp) ?_
        refine AllReadyIn.cons rfl (fun K hK => ?_) ?_
        · skip
          go_simp
          refine hK _ _ ?_
          clear hK K
          refine wpAnyIn_ready (rs := [3]) (by kernel_rfl) (by simp) ?_
          refine AllReadyIn.cons rfl (fun K hK => ?_) ?_
          · skip
            go_simp
            gi_wp2_with (gi_at_fn fo; refine (CallsIn.inRound l (callsIn_wide.2 (hof x.2 _))).mono ?_; rintro e w1 ⟨rfl, hb1⟩)
            have hb1 : Below W.heap.size W w1 := (Below.drew (Below.refl W.heap.size W)).trans (show Below W.heap.size W.drew w1 from hb1)
            have bO1 := box_below hu hb1
            have bF1 := box_below hF hb1
            have bL1 := box_below hL hb1
            have hrow1 := row_below hrow hb1
            have hs1 : W.heap.size ≤ w1.heap.size := hb1.size
            have cO1 := bO1.cell
            have cO2 := (bO1.alloc (.cells #[.int .i64 (g x.2)] 3)).cell
            refine wpAnyIn_ready (rs := [4]) (by kernel_rfl) (by simp) ?_
            refine AllReadyIn.cons rfl (fun K hK => ?_) ?_
            · skip
              go_simp
              refine hK _ _ ?_
              clear hK K
              refine wpAnyIn_ready (rs := [5]) (by kernel_rfl) (by simp) ?_
              refine AllReadyIn.cons rfl (fun K hK => ?_) ?_
              · skip
                refine step_append_in rfl (.tmp 12) (.tmp 16) 59 rfl w.heap.size 3 i0 (.int .i64 0) 1 8 Tryd.underlying59 hi hz0 hz1 hz2 rfl (by decide) u pre.length (gotten g pre) (by simp [Act.eval]) (hrow1.alloc _) ⟨w1.heap.size, 0, none⟩ 1 1 [.int .i64 (g x.2)] (by simp [Act.eval]) rfl (cell_one_new _ _ _) (by simp [Value.oneCell']) (by unfold maxLen; omega) (by omega) (by simp; omega) ?_
                intro v' w2 hown' hgrow
                obtain ⟨g', cap', rfl⟩ := ownsRow_succ hown'
                obtain ⟨hv1, hv2, hr2, hk2, hb2⟩ := bO1.appended (by decide) hrow1 (by omega) (by omega) hown' hgrow
                have bF2 := ((bF1.alloc _).kept hgrow (bF1.not_row (by decide) hrow1)).other (B' := w.heap.size + 1) (by omega) (.slice (some ⟨g', 0, none⟩) (pre.length + 1) cap')
                have bL2 := ((bL1.alloc _).kept hgrow (bL1.not_row (by decide) hrow1)).other (B' := w.heap.size + 1) (by omega) (.slice (some ⟨g', 0, none⟩) (pre.length + 1) cap')
                have hc2 := hv1.cell
                have hf2 := hv1.frozen
                refine hK _ _ ?_
                clear hK K hown' hgrow
                refine wpAnyIn_ready (rs := [6]) (by kernel_rfl) (by simp) ?_
                refine AllReadyIn.cons rfl (fun K hK => ?_) ?_
                · skip
                  go_simp
                  refine hK _ _ ?_
                  clear hK K
                  refine wpAnyIn_done (by kernel_rfl) ?_ _
                  exact fin_numbers hu hF hL hrow hB hb1 hv2 hr2 hk2 hb2 bF2 bL2 (by omega)
                exact AllReadyIn.nil
              exact AllReadyIn.nil
            exact AllReadyIn.nil
          exact AllReadyIn.nil
        exact AllReadyIn.nil
      exact AllReadyIn.nil
    refine AllReadyIn.cons rfl (fun K hK => ?_) ?_
    · skip
      go_simp
      refine hK _ _ ?_
      clear hK K
      refine wpAnyIn_ready (rs := [0, 2]) (by kernel_rfl) (by simp) ?_
      refine AllReadyIn.cons rfl (fun K hK => ?_) ?_
      · skip
        go_simp
        refine hK _ _ ?_
        clear hK K
        refine wpAnyIn_ready (rs := [2]) (by kernel_rfl) (by simp) ?_
        refine AllReadyIn.cons rfl (fun K hK => ?_) ?_
        · skip
          go_simp
          refine hK _ _ ?_
          clear hK K
          refine wpAnyIn_ready (rs := [3]) (by kernel_rfl) (by simp) ?_
          refine AllReadyIn.cons rfl (fun K hK => ?_) ?_
          · skip
            go_simp
            gi_wp2_with (gi_at_fn fo; refine (CallsIn.inRound l (callsIn_wide.2 (hof x.2 _))).mono ?_; rintro e w1 ⟨rfl, hb1⟩)
            have hb1 : Below W.heap.size W w1 := (Below.drew (Below.refl W.heap.size W)).trans (show Below W.heap.size W.drew w1 from hb1)
            have bO1 := box_below hu hb1
            have bF1 := box_below hF hb1
            have bL1 := box_below hL hb1
            have hrow1 := row_below hrow hb1
            have hs1 : W.heap.size ≤ w1.heap.size := hb1.size
            have cO1 := bO1.cell
            have cO2 := (bO1.alloc (.cells #[.int .i64 (g x.2)] 3)).cell
            refine wpAnyIn_ready (rs := [4]) (by kernel_rfl) (by simp) ?_
            refine AllReadyIn.cons rfl (fun K hK => ?_) ?_
            · skip
              go_simp
              refine hK _ _ ?_
              clear hK K
              refine wpAnyIn_ready (rs := [5]) (by kernel_rfl) (by simp) ?_
              refine AllReadyIn.cons rfl (fun K hK => ?_) ?_
              · skip
                refine step_append_in rfl (.tmp 12) (.tmp 16) 59 rfl w.heap.size 3 i0 (.int .i64 0) 1 8 Tryd.underlying59 hi hz0 hz1 hz2 rfl (by decide) u pre.length (gotten g pre) (by simp [Act.eval]) (hrow1.alloc _) ⟨w1.heap.size, 0, none⟩ 1 1 [.int .i64 (g x.2)] (by simp [Act.eval]) rfl (cell_one_new _ _ _) (by simp [Value.oneCell']) (by unfold maxLen; omega) (by omega) (by simp; omega) ?_
                intro v' w2 hown' hgrow
                obtain ⟨g', cap', rfl⟩ := ownsRow_succ hown'
                obtain ⟨hv1, hv2, hr2, hk2, hb2⟩ := bO1.appended (by decide) hrow1 (by omega) (by omega) hown' hgrow
                have bF2 := ((bF1.alloc _).kept hgrow (bF1.not_row (by decide) hrow1)).other (B' := w.heap.size + 1) (by omega) (.slice (some ⟨g', 0, none⟩) (pre.length + 1) cap')
                have bL2 := ((bL1.alloc _).kept hgrow (bL1.not_row (by decide) hrow1)).other (B' := w.heap.size + 1) (by omega) (.slice (some ⟨g', 0, none⟩) (pre.length + 1) cap')
                have hc2 := hv1.cell
                have hf2 := hv1.frozen
                refine hK _ _ ?_
                clear hK K hown' hgrow
                refine wpAnyIn_ready (rs := [6]) (by kernel_rfl) (by simp) ?_
                refine AllReadyIn.cons rfl (fun K hK => ?_) ?_
                · skip
                  go_simp
                  refine hK _ _ ?_
                  clear hK K
                  refine wpAnyIn_done (by kernel_rfl) ?_ _
                  exact fin_numbers hu hF hL hrow hB hb1 hv2 hr2 hk2 hb2 bF2 bL2 (by omega)
                exact AllReadyIn.nil
              exact AllReadyIn.nil
            exact AllReadyIn.nil
          exact AllReadyIn.nil
        exact AllReadyIn.nil
      refine AllReadyIn.cons rfl (fun K hK => ?_) ?_
      · skip
        go_simp
        refine hK _ _ ?_
        clear hK K
        refine wpAnyIn_ready (rs := [0, 3]) (by kernel_rfl) (by simp) ?_
        refine AllReadyIn.cons rfl (fun K hK => ?_) ?_
        · skip
          go_simp
          refine hK _ _ ?_
          clear hK K
          refine wpAnyIn_ready (rs := [3]) (by kernel_rfl) (by simp) ?_
          refine AllReadyIn.cons rfl (fun K hK => ?_) ?_
          · skip
            go_simp
            gi_wp2_with (gi_at_fn fo; refine (CallsIn.inRound l (callsIn_wide.2 (hof x.2 _))).mono ?_; rintro e w1 ⟨rfl, hb1⟩)
            have hb1 : Below W.heap.size W w1 := (Below.drew (Below.refl W.heap.size W)).trans (show Below W.heap.size W.drew w1 from hb1)
            have bO1 := box_below hu hb1
            have bF1 := box_below hF hb1
            have bL1 := box_below hL hb1
            have hrow1 := row_below hrow hb1
            have hs1 : W.heap.size ≤ w1.heap.size := hb1.size
            have cO1 := bO1.cell
            have cO2 := (bO1.alloc (.cells #[.int .i64 (g x.2)] 3)).cell
            refine wpAnyIn_ready (rs := [4]) (by kernel_rfl) (by simp) ?_
            refine AllReadyIn.cons rfl (fun K hK => ?_) ?_
            · skip
              go_simp
              refine hK _ _ ?_
              clear hK K
              refine wpAnyIn_ready (rs := [5]) (by kernel_rfl) (by simp) ?_
              refine AllReadyIn.cons rfl (fun K hK => ?_) ?_
              · skip
                refine step_append_in rfl (.tmp 12) (.tmp 16) 59 rfl w.heap.size 3 i0 (.int .i64 0) 1 8 Tryd.underlying59 hi hz0 hz1 hz2 rfl (by decide) u pre.length (gotten g pre) (by simp [Act.eval]) (hrow1.alloc _) ⟨w1.heap.size, 0, none⟩ 1 1 [.int .i64 (g x.2)] (by simp [Act.eval]) rfl (cell_one_new _ _ _) (by simp [Value.oneCell']) (by unfold maxLen; omega) (by omega) (by simp; omega) ?_
                intro v' w2 hown' hgrow
                obtain ⟨g', cap', rfl⟩ := ownsRow_succ hown'
                obtain ⟨hv1, hv2, hr2, hk2, hb2⟩ := bO1.appended (by decide) hrow1 (by omega) (by omega) hown' hgrow
                have bF2 := ((bF1.alloc _).kept hgrow (bF1.not_row (by decide) hrow1)).other (B' := w.heap.size + 1) (by omega) (.slice (some ⟨g', 0, none⟩) (pre.length + 1) cap')
                have bL2 := ((bL1.alloc _).kept hgrow (bL1.not_row (by decide) hrow1)).other (B' := w.heap.size + 1) (by omega) (.slice (some ⟨g', 0, none⟩) (pre.length + 1) cap')
                have hc2 := hv1.cell
                have hf2 := hv1.frozen
                refine hK _ _ ?_
                clear hK K hown' hgrow
                refine wpAnyIn_ready (rs := [6]) (by kernel_rfl) (by simp) ?_
                refine AllReadyIn.cons rfl (fun K hK => ?_) ?_
                · skip
                  go_simp
                  refine hK _ _ ?_
                  clear hK K
                  refine wpAnyIn_done (by kernel_rfl) ?_ _
                  exact fin_numbers hu hF hL hrow hB hb1 hv2 hr2 hk2 hb2 bF2 bL2 (by omega)
                exact AllReadyIn.nil
              exact AllReadyIn.nil
            exact AllReadyIn.nil
          exact AllReadyIn.nil
        refine AllReadyIn.cons rfl (fun K hK => ?_) ?_
        · skip
          go_simp
          gi_wp2_with (gi_at_fn fo; refine (CallsIn.inRound l (callsIn_wide.2 (hof x.2 _))).mono ?_; rintro e w1 ⟨rfl, hb1⟩)
          have hb1 : Below W.heap.size W w1 := (Below.drew (Below.refl W.heap.size W)).trans (show Below W.heap.size W.drew w1 from hb1)
          have bO1 := box_below hu hb1
          have bF1 := box_below hF hb1
          have bL1 := box_below hL hb1
          have hrow1 := row_below hrow hb1
          have hs1 : W.heap.size ≤ w1.heap.size := hb1.size
          have cO1 := bO1.cell
          have cO2 := (bO1.alloc (.cells #[.int .i64 (g x.2)] 3)).cell
          refine wpAnyIn_ready (rs := [0, 4]) (by kernel_rfl) (by simp) ?_
          refine AllReadyIn.cons rfl (fun K hK => ?_) ?_
          · skip
            go_simp
            refine hK _ _ ?_
            clear hK K
            refine wpAnyIn_ready (rs := [4]) (by kernel_rfl) (by simp) ?_
            refine AllReadyIn.cons rfl (fun K hK => ?_) ?_
            · skip
              go_simp
              refine hK _ _ ?_
              clear hK K
              refine wpAnyIn_ready (rs := [5]) (by kernel_rfl) (by simp) ?_
              refine AllReadyIn.cons rfl (fun K hK => ?_) ?_
              · skip
                refine step_append_in rfl (.tmp 12) (.tmp 16) 59 rfl w.heap.size 3 i0 (.int .i64 0) 1 8 Tryd.underlying59 hi hz0 hz1 hz2 rfl (by decide) u pre.length (gotten g pre) (by simp [Act.eval]) (hrow1.alloc _) ⟨w1.heap.size, 0, none⟩ 1 1 [.int .i64 (g x.2)] (by simp [Act.eval]) rfl (cell_one_new _ _ _) (by simp [Value.oneCell']) (by unfold maxLen; omega) (by omega) (by simp; omega) ?_
                intro v' w2 hown' hgrow
                obtain ⟨g', cap', rfl⟩ := ownsRow_succ hown'
                obtain ⟨hv1, hv2, hr2, hk2, hb2⟩ := bO1.appended (by decide) hrow1 (by omega) (by omega) hown' hgrow
                have bF2 := ((bF1.alloc _).kept hgrow (bF1.not_row (by decide) hrow1)).other (B' := w.heap.size + 1) (by omega) (.slice (some ⟨g', 0, none⟩) (pre.length + 1) cap')
                have bL2 := ((bL1.alloc _).kept hgrow (bL1.not_row (by decide) hrow1)).other (B' := w.heap.size + 1) (by omega) (.slice (some ⟨g', 0, none⟩) (pre.length + 1) cap')
                have hc2 := hv1.cell
                have hf2 := hv1.frozen
                refine hK _ _ ?_
                clear hK K hown' hgrow
                refine wpAnyIn_ready (rs := [6]) (by kernel_rfl) (by simp) ?_
                refine AllReadyIn.cons rfl (fun K hK => ?_) ?_
                · skip
                  go_simp
                  refine hK _ _ ?_
                  clear hK K
                  refine wpAnyIn_done (by kernel_rfl) ?_ _
                  exact fin_numbers hu hF hL hrow hB hb1 hv2 hr2 hk2 hb2 bF2 bL2 (by omega)
                exact AllReadyIn.nil
              exact AllReadyIn.nil
            exact AllReadyIn.nil
          refine AllReadyIn.cons rfl (fun K hK => ?_) ?_
          · skip
            go_simp
            refine hK _ _ ?_
            clear hK K
            refine wpAnyIn_ready (rs := [0]) (by kernel_rfl) (by simp) ?_
            refine AllReadyIn.cons rfl (fun K hK => ?_) ?_
            · skip
              go_simp
              refine hK _ _ ?_
              clear hK K
              refine wpAnyIn_ready (rs := [5]) (by kernel_rfl) (by simp) ?_
              refine AllReadyIn.cons rfl (fun K hK => ?_) ?_
              · skip
                refine step_append_in rfl (.tmp 12) (.tmp 16) 59 rfl w.heap.size 3 i0 (.int .i64 0) 1 8 Tryd.underlying59 hi hz0 hz1 hz2 rfl (by decide) u pre.length (gotten g pre) (by simp [Act.eval]) (hrow1.alloc _) ⟨w1.heap.size, 0, none⟩ 1 1 [.int .i64 (g x.2)] (by simp [Act.eval]) rfl (cell_one_new _ _ _) (by simp [Value.oneCell']) (by unfold maxLen; omega) (by omega) (by simp; omega) ?_
                intro v' w2 hown' hgrow
                obtain ⟨g', cap', rfl⟩ := ownsRow_succ hown'
                obtain ⟨hv1, hv2, hr2, hk2, hb2⟩ := bO1.appended (by decide) hrow1 (by omega) (by omega) hown' hgrow
                have bF2 := ((bF1.alloc _).kept hgrow (bF1.not_row (by decide) hrow1)).other (B' := w.heap.size + 1) (by omega) (.slice (some ⟨g', 0, none⟩) (pre.length + 1) cap')
                have bL2 := ((bL1.alloc _).kept hgrow (bL1.not_row (by decide) hrow1)).other (B' := w.heap.size + 1) (by omega) (.slice (some ⟨g', 0, none⟩) (pre.length + 1) cap')
                have hc2 := hv1.cell
                have hf2 := hv1.frozen
                refine hK _ _ ?_
                clear hK K hown' hgrow
                refine wpAnyIn_ready (rs := [6]) (by kernel_rfl) (by simp) ?_
                refine AllReadyIn.cons rfl (fun K hK => ?_) ?_
                · skip
                  go_simp
                  refine hK _ _ ?_
                  clear hK K
                  refine wpAnyIn_done (by kernel_rfl) ?_ _
                  exact fin_numbers hu hF hL hrow hB hb1 hv2 hr2 hk2 hb2 bF2 bL2 (by omega)
                exact AllReadyIn.nil
              exact AllReadyIn.nil
            exact AllReadyIn.nil
          exact AllReadyIn.nil
        exact AllReadyIn.nil
      exact AllReadyIn.nil
    refine AllReadyIn.cons rfl (fun K hK => ?_) ?_
    · skip
      go_simp
      refine hK _ _ ?_
      clear hK K
      refine wpAnyIn_ready (rs := [0, 1]) (by kernel_rfl) (by simp) ?_
      refine AllReadyIn.cons rfl (fun K hK => ?_) ?_
      · skip
        go_simp
        refine hK _ _ ?_
        clear hK K
        refine wpAnyIn_ready (rs := [1]) (by kernel_rfl) (by simp) ?_
        refine AllReadyIn.cons rfl (fun K hK => ?_) ?_
        · skip
          go_simp
          refine hK _ _ ?_
          clear hK K
          refine wpAnyIn_ready (rs := [3]) (by kernel_rfl) (by simp) ?_
          refine AllReadyIn.cons rfl (fun K hK => ?_) ?_
          · skip
            go_simp
            gi_wp2_with (gi_at_fn fo; refine (CallsIn.inRound l (callsIn_wide.2 (hof x.2 _))).mono ?_; rintro e w1 ⟨rfl, hb1⟩)
            have hb1 : Below W.heap.size W w1 := (Below.drew (Below.refl W.heap.size W)).trans (show Below W.heap.size W.drew w1 from hb1)
            have bO1 := box_below hu hb1
            have bF1 := box_below hF hb1
            have bL1 := box_below hL hb1
            have hrow1 := row_below hrow hb1
            have hs1 : W.heap.size ≤ w1.heap.size := hb1.size
            have cO1 := bO1.cell
            have cO2 := (bO1.alloc (.cells #[.int .i64 (g x.2)] 3)).cell
            refine wpAnyIn_ready (rs := [4]) (by kernel_rfl) (by simp) ?_
            refine AllReadyIn.cons rfl (fun K hK => ?_) ?_
            · skip
              go_simp
              refine hK _ _ ?_
              clear hK K
              refine wpAnyIn_ready (rs := [5]) (by kernel_rfl) (by simp) ?_
              refine AllReadyIn.cons rfl (fun K hK => ?_) ?_
              · skip
                refine step_append_in rfl (.tmp 12) (.tmp 16) 59 rfl w.heap.size 3 i0 (.int .i64 0) 1 8 Tryd.underlying59 hi hz0 hz1 hz2 rfl (by decide) u pre.length (gotten g pre) (by simp [Act.eval]) (hrow1.alloc _) ⟨w1.heap.size, 0, none⟩ 1 1 [.int .i64 (g x.2)] (by simp [Act.eval]) rfl (cell_one_new _ _ _) (by simp [Value.oneCell']) (by unfold maxLen; omega) (by omega) (by simp; omega) ?_
                intro v' w2 hown' hgrow
                obtain ⟨g', cap', rfl⟩ := ownsRow_succ hown'
                obtain ⟨hv1, hv2, hr2, hk2, hb2⟩ := bO1.appended (by decide) hrow1 (by omega) (by omega) hown' hgrow
                have bF2 := ((bF1.alloc _).kept hgrow (bF1.not_row (by decide) hrow1)).other (B' := w.heap.size + 1) (by omega) (.slice (some ⟨g', 0, none⟩) (pre.length + 1) cap')
                have bL2 := ((bL1.alloc _).kept hgrow (bL1.not_row (by decide) hrow1)).other (B' := w.heap.size + 1) (by omega) (.slice (some ⟨g', 0, none⟩) (pre.length + 1) cap')
                have hc2 := hv1.cell
                have hf2 := hv1.frozen
                refine hK _ _ ?_
                clear hK K hown' hgrow
                refine wpAnyIn_ready (rs := [6]) (by kernel_rfl) (by simp) ?_
                refine AllReadyIn.cons rfl (fun K hK => ?_) ?_
                · skip
                  go_simp
                  refine hK _ _ ?_
                  clear hK K
                  refine wpAnyIn_done (by kernel_rfl) ?_ _
                  exact fin_numbers hu hF hL hrow hB hb1 hv2 hr2 hk2 hb2 bF2 bL2 (by omega)
                exact AllReadyIn.nil
              exact AllReadyIn.nil
            exact AllReadyIn.nil
          exact AllReadyIn.nil
        exact AllReadyIn.nil
      refine AllReadyIn.cons rfl (fun K hK => ?_) ?_
      · skip
        go_simp
        refine hK _ _ ?_
        clear hK K
        refine wpAnyIn_ready (rs := [0, 3]) (by kernel_rfl) (by simp) ?_
        refine AllReadyIn.cons rfl (fun K hK => ?_) ?_
        · skip
          go_simp
          refine hK _ _ ?_
          clear hK K
          refine wpAnyIn_ready (rs := [3]) (by kernel_rfl) (by simp) ?_
          refine AllReadyIn.cons rfl (fun K hK => ?_) ?_
          · skip
            go_simp
            gi_wp2_with (gi_at_fn fo; refine (CallsIn.inRound l (callsIn_wide.2 (hof x.2 _))).mono ?_; rintro e w1 ⟨rfl, hb1⟩)
            have hb1 : Below W.heap.size W w1 := (Below.drew (Below.refl W.heap.size W)).trans (show Below W.heap.size W.drew w1 from hb1)
            have bO1 := box_below hu hb1
            have bF1 := box_below hF hb1
            have bL1 := box_below hL hb1
            have hrow1 := row_below hrow hb1
            have hs1 : W.heap.size ≤ w1.heap.size := hb1.size
            have cO1 := bO1.cell
            have cO2 := (bO1.alloc (.cells #[.int .i64 (g x.2)] 3)).cell
            refine wpAnyIn_ready (rs := [4]) (by kernel_rfl) (by simp) ?_
            refine AllReadyIn.cons rfl (fun K hK => ?_) ?_
            · skip
              go_simp
              refine hK _ _ ?_
              clear hK K
              refine wpAnyIn_ready (rs := [5]) (by kernel_rfl) (by simp) ?_
              refine AllReadyIn.cons rfl (fun K hK => ?_) ?_
              · skip
                refine step_append_in rfl (.tmp 12) (.tmp 16) 59 rfl w.heap.size 3 i0 (.int .i64 0) 1 8 Tryd.underlying59 hi hz0 hz1 hz2 rfl (by decide) u pre.length (gotten g pre) (by simp [Act.eval]) (hrow1.alloc _) ⟨w1.heap.size, 0, none⟩ 1 1 [.int .i64 (g x.2)] (by simp [Act.eval]) rfl (cell_one_new _ _ _) (by simp [Value.oneCell']) (by unfold maxLen; omega) (by omega) (by simp; omega) ?_
                intro v' w2 hown' hgrow
                obtain ⟨g', cap', rfl⟩ := ownsRow_succ hown'
                obtain ⟨hv1, hv2, hr2, hk2, hb2⟩ := bO1.appended (by decide) hrow1 (by omega) (by omega) hown' hgrow
                have bF2 := ((bF1.alloc _).kept hgrow (bF1.not_row (by decide) hrow1)).other (B' := w.heap.size + 1) (by omega) (.slice (some ⟨g', 0, none⟩) (pre.length + 1) cap')
                have bL2 := ((bL1.alloc _).kept hgrow (bL1.not_row (by decide) hrow1)).other (B' := w.heap.size + 1) (by omega) (.slice (some ⟨g', 0, none⟩) (pre.length + 1) cap')
                have hc2 := hv1.cell
                have hf2 := hv1.frozen
                refine hK _ _ ?_
                clear hK K hown' hgrow
                refine wpAnyIn_ready (rs := [6]) (by kernel_rfl) (by simp) ?_
                refine AllReadyIn.cons rfl (fun K hK => ?_) ?_
                · skip
                  go_simp
                  refine hK _ _ ?_
                  clear hK K
                  refine wpAnyIn_done (by kernel_rfl) ?_ _
                  exact fin_numbers hu hF hL hrow hB hb1 hv2 hr2 hk2 hb2 bF2 bL2 (by omega)
                exact AllReadyIn.nil
              exact AllReadyIn.nil
            exact AllReadyIn.nil
          exact AllReadyIn.nil
        refine AllReadyIn.cons rfl (fun K hK => ?_) ?_
        · skip
          go_simp
          gi_wp2_with (gi_at_fn fo; refine (CallsIn.inRound l (callsIn_wide.2 (hof x.2 _))).mono ?_; rintro e w1 ⟨rfl, hb1⟩)
          have hb1 : Below W.heap.size W w1 := (Below.drew (Below.refl W.heap.size W)).trans (show Below W.heap.size W.drew w1 from hb1)
          have bO1 := box_below hu hb1
          have bF1 := box_below hF hb1
          have bL1 := box_below hL hb1
          have hrow1 := row_below hrow hb1
          have hs1 : W.heap.size ≤ w1.heap.size := hb1.size
          have cO1 := bO1.cell
          have cO2 := (bO1.alloc (.cells #[.int .i64 (g x.2)] 3)).cell
          refine wpAnyIn_ready (rs := [0, 4]) (by kernel_rfl) (by simp) ?_
          refine AllReadyIn.cons rfl (fun K hK => ?_) ?_
          · skip
            go_simp
            refine hK _ _ ?_
            clear hK K
            refine wpAnyIn_ready (rs := [4]) (by kernel_rfl) (by simp) ?_
            refine AllReadyIn.cons rfl (fun K hK => ?_) ?_
            · skip
              go_simp
              refine hK _ _ ?_
              clear hK K
              refine wpAnyIn_ready (rs := [5]) (by kernel_rfl) (by simp) ?_
              refine AllReadyIn.cons rfl (fun K hK => ?_) ?_
              · skip
                refine step_append_in rfl (.tmp 12) (.tmp 16) 59 rfl w.heap.size 3 i0 (.int .i64 0) 1 8 Tryd.underlying59 hi hz0 hz1 hz2 rfl (by decide) u pre.length (gotten g pre) (by simp [Act.eval]) (hrow1.alloc _) ⟨w1.heap.size, 0, none⟩ 1 1 [.int .i64 (g x.2)] (by simp [Act.eval]) rfl (cell_one_new _ _ _) (by simp [Value.oneCell']) (by unfold maxLen; omega) (by omega) (by simp; omega) ?_
                intro v' w2 hown' hgrow
                obtain ⟨g', cap', rfl⟩ := ownsRow_succ hown'
                obtain ⟨hv1, hv2, hr2, hk2, hb2⟩ := bO1.appended (by decide) hrow1 (by omega) (by omega) hown' hgrow
                have bF2 := ((bF1.alloc _).kept hgrow (bF1.not_row (by decide) hrow1)).other (B' := w.heap.size + 1) (by omega) (.slice (some ⟨g', 0, none⟩) (pre.length + 1) cap')
                have bL2 := ((bL1.alloc _).kept hgrow (bL1.not_row (by decide) hrow1)).other (B' := w.heap.size + 1) (by omega) (.slice (some ⟨g', 0, none⟩) (pre.length + 1) cap')
                have hc2 := hv1.cell
                have hf2 := hv1.frozen
                refine hK _ _ ?_
                clear hK K hown' hgrow
                refine wpAnyIn_ready (rs := [6]) (by kernel_rfl) (by simp) ?_
                refine AllReadyIn.cons rfl (fun K hK => ?_) ?_
                · skip
                  go_simp
                  refine hK _ _ ?_
                  clear hK K
                  refine wpAnyIn_done (by kernel_rfl) ?_ _
                  exact fin_numbers hu hF hL hrow hB hb1 hv2 hr2 hk2 hb2 bF2 bL2 (by omega)
                exact AllReadyIn.nil
              exact AllReadyIn.nil
            exact AllReadyIn.nil
          refine AllReadyIn.cons rfl (fun K hK => ?_) ?_
          · skip
            go_simp
            refine hK _ _ ?_
            clear hK K
            refine wpAnyIn_ready (rs := [0]) (by kernel_rfl) (by simp) ?_
            refine AllReadyIn.cons rfl (fun K hK => ?_) ?_
            · skip
              go_simp
              refine hK _ _ ?_
              clear hK K
              refine wpAnyIn_ready (rs := [5]) (by kernel_rfl) (by simp) ?_
              refine AllReadyIn.cons rfl (fun K hK => ?_) ?_
              · skip
                refine step_append_in rfl (.tmp 12) (.tmp 16) 59 rfl w.heap.size 3 i0 (.int .i64 0) 1 8 Tryd.underlying59 hi hz0 hz1 hz2 rfl (by decide) u pre.length (gotten g pre) (by simp [Act.eval]) (hrow1.alloc _) ⟨w1.heap.size, 0, none⟩ 1 1 [.int .i64 (g x.2)] (by simp [Act.eval]) rfl (cell_one_new _ _ _) (by simp [Value.oneCell']) (by unfold maxLen; omega) (by omega) (by simp; omega) ?_
                intro v' w2 hown' hgrow
                obtain ⟨g', cap', rfl⟩ := ownsRow_succ hown'
                obtain ⟨hv1, hv2, hr2, hk2, hb2⟩ := bO1.appended (by decide) hrow1 (by omega) (by omega) hown' hgrow
                have bF2 := ((bF1.alloc _).kept hgrow (bF1.not_row (by decide) hrow1)).other (B' := w.heap.size + 1) (by omega) (.slice (some ⟨g', 0, none⟩) (pre.length + 1) cap')
                have bL2 := ((bL1.alloc _).kept hgrow (bL1.not_row (by decide) hrow1)).other (B' := w.heap.size + 1) (by omega) (.slice (some ⟨g', 0, none⟩) (pre.length + 1) cap')
                have hc2 := hv1.cell
                have hf2 := hv1.frozen
                refine hK _ _ ?_
                clear hK K hown' hgrow
                refine wpAnyIn_ready (rs := [6]) (by kernel_rfl) (by simp) ?_
                refine AllReadyIn.cons rfl (fun K hK => ?_) ?_
                · skip
                  go_simp
                  refine hK _ _ ?_
                  clear hK K
                  refine wpAnyIn_done (by kernel_rfl) ?_ _
                  exact fin_numbers hu hF hL hrow hB hb1 hv2 hr2 hk2 hb2 bF2 bL2 (by omega)
                exact AllReadyIn.nil
              exact AllReadyIn.nil
            exact AllReadyIn.nil
          exact AllReadyIn.nil
        exact AllReadyIn.nil
      exact AllReadyIn.nil
    exact AllReadyIn.nil
    --@endbody
  case done =>
    rintro D ys W hD rfl ⟨⟨⟨u, hu, hrow, -⟩, hF, hL⟩, hB⟩ hK
    have hc := hu.cell
    gi_wp2
    refine ⟨by simp, .inl ⟨_, _, rfl, run_takeDeferred hK, ?_⟩⟩
    rw [backP_length] at hrow
    exact ⟨_, results_tmp rfl _ _ _, u, rfl, ownsRow_putObj hrow _ hK rfl, hB.trans (belowK_b (w := w) (Nat.le_refl _) W D _ _ (by omega) hK rfl rfl)⟩
  case stop =>
    rintro D c pre W _ _ h _
    exact h.elim
end Go.Proofs.YtpnondeaiinccaaDoor
