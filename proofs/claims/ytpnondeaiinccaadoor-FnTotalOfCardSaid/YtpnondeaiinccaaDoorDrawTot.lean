/- The drawing of numerals to be added. -/
import Derived.Test.YtpnondeaiinccaaDoorOpen
import Derived.Test.YtpnondeaiinccaaDoorTotal
namespace Go.Proofs.YtpnondeaiinccaaDoor
open Go.RowKit
set_option linter.unusedVariables false
set_option maxRecDepth 100000
/-- the slice value v owns the texts zs, in a block from base on -/
def OwnStrs (w : World) (base : Nat) (v : Value) (zs : List ByteArray) : Prop := w.ownsRow base 9 1 v zs.length (zs.map Value.string)
theorem OwnStrs.strs {w : World} {base : Nat} {v : Value} {zs : List ByteArray} (h : OwnStrs w base v zs) : Strs w w.heap.size v zs := by
  rcases h.2 with ⟨rfl, hn⟩ | ⟨g, cap, cur, rfl, _, hh, _⟩
  · have e : zs = [] := List.eq_nil_of_length_eq_zero hn
    subst e
    exact ⟨none, 0, rfl, fun hne => absurd rfl hne⟩
  · refine ⟨_, cap, rfl, fun _ => ⟨g, rfl, lt_of_block hh, fun k z hk => ?_⟩⟩
    have hkl : k < zs.length := (List.getElem?_eq_some_iff.1 hk).1
    rw [World.ownsRow.cellAt h k (by omega), List.getElem?_map, hk]
    rfl
theorem OwnStrs.below {w w' : World} {base : Nat} {v : Value} {zs : List ByteArray} (h : OwnStrs w base v zs) (hb : Below w.heap.size w w') : OwnStrs w' base v zs := by
  refine ⟨h.1, ?_⟩
  rcases h.2 with h0 | ⟨g, cap, cur, hv, hg, hh, hr⟩
  · exact .inl h0
  · exact .inr ⟨g, cap, cur, hv, hg, (hb.block g (lt_of_block hh)).trans hh, hr⟩
theorem OwnStrs.only {w w' : World} {base R : Nat} {v : Value} {zs : List ByteArray} (h : OwnStrs w base v zs) (ho : Only R w w') (hR : R < base) : OwnStrs w' base v zs := by
  refine ⟨h.1, ?_⟩
  rcases h.2 with h0 | ⟨g, cap, cur, hv, hg, hh, hr⟩
  · exact .inl h0
  · exact .inr ⟨g, cap, cur, hv, hg, (ho.block g (lt_of_block hh) (fun e => by injection e; omega)).trans hh, hr⟩
theorem OwnStrs.empty (w : World) : OwnStrs (w.alloc (.cells #[] 9)) w.heap.size (.slice (some ⟨w.heap.size, 0, none⟩) 0 0) [] :=
  ⟨rfl, .inr ⟨w.heap.size, 0, #[], rfl, Nat.le_refl _, heap_alloc_new w _, Nat.le_refl _, by unfold maxLen; omega, rfl, rfl⟩⟩
theorem strs_more {w : World} {base : Nat} {v : Value} {zs : List ByteArray} {z : ByteArray} (h : w.ownsRow base 9 1 v (zs.length + 1) (zs.map Value.string ++ [.string z])) : OwnStrs w base v (zs ++ [z]) := by
  unfold OwnStrs
  rw [List.length_append, List.map_append]
  exact h
theorem str_news (W : World) (z : ByteArray) : ∀ j u, [Value.string z][j]? = some u → (W.alloc (.cells #[.string z] 9)).cell? ((⟨W.heap.size, 0, none⟩ : Addr).add j) = some u :=
  World.news_of_block (cs := #[.string z]) (t := 9) (fr := (0, 0)) (heap_alloc_new W _)
theorem str_one (z : ByteArray) : ∀ u ∈ [Value.string z], u.oneCell' = true := by
  intro u hu; simp at hu; subst hu; rfl
theorem info_str2 : (Tryd.prog.info? 9).map (fun i => (i.zero, i.size, i.bytes)) = some (some (.string ⟨#[]⟩), 1, 16) := by kernel_rfl
theorem Rdr.grown {w w' : World} {R p : Nat} {row : Option Nat} (h : Rdr w R p) (hg : w.grownBy w' row) (hr : ∀ k, row = some k → R < k) : Rdr w' R p :=
  h.keep fun b hb => hg.block b (Nat.lt_of_le_of_lt hb h.lt) (fun e => by have := hr b e.symm; omega)
theorem Only.grown2 {R : Nat} {a b c : World} {row : Option Nat} (h : Only R a b) (hg : b.grownBy c row) (hr : ∀ k, row = some k → a.heap.size ≤ k) : Only R a c :=
  ⟨hg.os.trans h.os, hg.tape.trans h.tape, hg.output.trans h.output, Nat.le_trans h.size hg.size, fun i hi hne => (hg.block i (by have := h.size; omega) (fun e => by have := hr i e.symm; omega)).trans (h.block i hi hne)⟩
theorem own_row_ge {w : World} {base : Nat} {v : Value} {n : Nat} {xs : List Value} {e : TypeId} {size : Nat} (h : w.ownsRow base e size v n xs) : ∀ k, v.ownBlock = some k → base ≤ k := fun k hk => (h.lt k hk).1
theorem one_size (k : Nat) (z : ByteArray) (h : (List.replicate 10 (⟨#[49]⟩ : ByteArray))[k]? = some z) : z.size ≤ 11 := by
  have := List.eq_of_mem_replicate (List.mem_of_getElem? h)
  rw [this]; decide
def TotPost (w : World) (e : Ending) (w' : World) : Prop := ∃ (v : Value) (zs : List ByteArray), e = .returned v ∧ zs.length ≤ 10 ∧ (∀ (k : Nat) (z : ByteArray), zs[k]? = some z → z.size ≤ 11) ∧ Strs w' w'.heap.size v zs ∧ Below w.heap.size w w'
theorem size_snoc {zs : List ByteArray} {t : ByteArray} (h : ∀ (k : Nat) (z : ByteArray), zs[k]? = some z → z.size ≤ 11) (ht : t.size ≤ 11) : ∀ (k : Nat) (z : ByteArray), (zs ++ [t])[k]? = some z → z.size ≤ 11 := by
  intro k z hk
  have hm := List.mem_of_getElem? hk
  rcases List.mem_append.1 hm with hm | hm
  · obtain ⟨j, hj⟩ := List.getElem?_of_mem hm
    exact h j z hj
  · have : z = t := by simpa using hm
    rw [this]; exact ht
set_option maxHeartbeats 3200000 in
theorem s_drawTotalOf (a : Option Addr) (len cap : Nat) (zs : List Int) (w : World) (h : IsBytes w a len cap zs) (hl : len ≤ 1048576) :
    Calls Tryd.prog 13 #[.slice a len cap] w (TotPost w) := by
  obtain ⟨i0, hi0, hz0, hz1, hz2⟩ := info_parts info_str2
  go_enter Tryd.func13, Tryd.ntmps13
  go_wp2_with fail
  refine (s_open a len cap zs _ h hl).mono ?_
  rintro e w1 ⟨R, rfl, hR, hr, hb⟩
  have hRw := hr.lt
  clear h
  go_wp2_with fail
  have hr1 := hr.alloc (.cells #[] 9)
  refine (s_pickI R 0 6 _ hr1 (by omega) (by omega) (by omega)).mono ?_
  rintro e w2 ⟨k0, hk0, rfl, hr2, ho2⟩
  have own2 := (OwnStrs.empty w1).only ho2 hRw
  have ho2' := ((Only.refl R w1).alloc (.cells #[] 9)).trans ho2
  clear hr hr1 ho2
  go_wp2_with fail
  go_loopw [4, 5] (fun o i wr => ∃ (k p : Nat) (ts : List ByteArray), k ≤ 5 ∧ i = .int .i64 k ∧ ts.length + k ≤ 5 ∧ p + 80 * k ≤ 500 ∧ Go.RowKit.Hid (∀ (j : Nat) (z : ByteArray), ts[j]? = some z → z.size ≤ 11) ∧ OwnStrs wr w1.heap.size o ts ∧ Rdr wr R p ∧ Only R w1 wr) (fun _ i _ => (intOf i).toNat)
  case atStart => exact ⟨k0, 1, [], by omega, rfl, by simp; omega, by omega, Lib.hid (fun j z hj => by simp at hj), own2, hr2, ho2'⟩
  case round =>
    obtain ⟨k, p, ts, hk, rfl, hts, hp, HS, hown, hrr, hoo⟩ := hrel
    clear own2 ho2' hr2
    by_cases hpos : (0 : Int) < (k : Int)
    · go_wp2_with fail
      refine (s_pickI R p 4 _ hrr (by omega) (by omega) (by omega)).mono ?_
      rintro e w3 ⟨k4, hk4, rfl, hr3, ho3⟩
      go_wp2_with fail
      refine (s_numeral R (p + 1) (9 - (k4 : Int)) 40 _ hr3 (by omega) (by omega) (by omega) (by omega) (by omega)).mono ?_
      rintro e w4 ⟨t, p', ht, rfl, hp', hr4, ho4⟩
      have own4 := (hown.only ho3 hRw).only ho4 hRw
      have ho4' := (hoo.trans ho3).trans ho4
      have hs4 := ho4'.size
      have HS2 := Lib.hid (size_snoc HS.out ht)
      clear hown hrr hoo ho3 ho4 hr3
      go_wp2_with (at_builtin; refine wpList_append_own _ rfl _ _ 23 rfl w1.heap.size 9 i0 (.string ⟨#[]⟩) 1 16 Tryd.underlying23 hi0 hz0 hz1 hz2 rfl (by decide) _ _ _ rfl (own4.below ((Below.refl _ _).alloc (Nat.le_refl _) _)) ⟨w4.heap.size, 0, none⟩ 1 1 [.string t] rfl rfl ?c1 ?c2 ?c3 ?c4 ?c5 ?_)
      case c1 => exact str_news w4 t
      case c2 => exact str_one t
      case c3 => unfold maxLen; omega
      case c4 => omega
      case c5 => simp; omega
      · intro v' w5 hown' hgrow _
        have own5 := strs_more hown'
        have HG := own_row_ge (own4.below ((Below.refl _ _).alloc (Nat.le_refl _) (.cells #[.string t] 9)))
        have hr5 := (hr4.alloc (.cells #[.string t] 9)).grown hgrow (fun j hj => by have := HG j hj; omega)
        have ho5 := (ho4'.alloc (.cells #[.string t] 9)).grown2 hgrow HG
        have OW := Lib.hid own5
        have RD := Lib.hid hr5
        have ON := Lib.hid ho5
        clear hown' hgrow own4 ho4' hr4 own5 HG hr5 ho5
        go_wp2_with fail
        go_roundw
        case rel => exact ⟨k - 1, p', ts ++ [t], by omega, by go_num, by rw [List.length_append, List.length_singleton]; omega, by omega, HS2, OW.out, RD.out, ON.out⟩
        case measure => simp [intOf]; omega
    · go_wp2_with fail
      refine (s_odd R p 30 _ hrr (by omega) (by omega) (by omega)).mono ?_
      rintro e w3 ⟨b, p3, rfl, hp3, hr3, ho3⟩
      have own3 := hown.only ho3 hRw
      have hb3 := hb.trans ((hoo.trans ho3).below_ hb.size hR)
      have OW := Lib.hid own3
      clear hown hrr hoo ho3 own3
      cases b with
      | false =>
        go_wp2_with fail
        go_ret
        exact ⟨_, ts, rfl, by omega, HS.out, OW.out.strs, hb3⟩
      | true =>
        go_wp2_with fail
        go_ret
        refine ⟨_, List.replicate 10 ⟨#[49]⟩, rfl, by simp, one_size, ⟨_, _, rfl, fun _ => ⟨w3.heap.size, rfl, by simp, fun k z hk => ?_⟩⟩, hb3.alloc hb3.size _⟩
        have hkl : k < 10 := by have := (List.getElem?_eq_some_iff.1 hk).1; simpa using this
        have hz := List.eq_of_mem_replicate (List.mem_of_getElem? hk)
        subst hz
        refine ((Blk.new w3 9 _).cell k).trans ?_
        match k, hkl with
        | 0, _ => rfl
        | 1, _ => rfl
        | 2, _ => rfl
        | 3, _ => rfl
        | 4, _ => rfl
        | 5, _ => rfl
        | 6, _ => rfl
        | 7, _ => rfl
        | 8, _ => rfl
        | 9, _ => rfl
end Go.Proofs.YtpnondeaiinccaaDoor
