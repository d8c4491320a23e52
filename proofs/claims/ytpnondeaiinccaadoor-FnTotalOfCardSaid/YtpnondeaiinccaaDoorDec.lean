/- Walk of spec.l1Number: a number's decimal digits. -/
import Derived.Test.YtpnondeaiinccaaDoorNum
import Derived.Test.YtpnondeaiinccaaDoorMem
import Derived.Lib.ItoaNum
import Derived.RegionTactic
import Derived.Deep.RegionWith
import Derived.Deep.RegionHeld3
import Derived.WalkLawsBesides
import Derived.Laws.IdiomStrings
namespace Go.Proofs.YtpnondeaiinccaaDoor
open Go.RowKit
theorem run_one_byte_at {P : Program} (src dst e : TypeId) (n : Int) (hs : P.underlying src = some (.slice e)) (he : P.underlying e = some (.int .u8)) (hd : P.underlying dst = some .string)
    (w : World) (g : Nat) (hc : w.cell? ⟨g, 0, none⟩ = some (.int .u8 n)) :
    (convert src dst (.slice (some ⟨g, 0, none⟩) 1 1)).run P w = .ok (.string ⟨#[UInt8.ofNat n.toNat]⟩) w := by
  rw [run_convert_bytes_string _ src dst e _ 1 1 hs he hd]
  have hl := run_loadCells_list (P := P) w ⟨g, 0, none⟩ [.int .u8 n] (fun j v hj => by
    match j, hj with
    | 0, hj => simp at hj; subst hj; simpa [Addr.add] using hc)
  rw [run_bytesToString _ _ 1 1 [n] (by simpa using hl)]
  rfl
theorem run_one_byte {P : Program} (w : World) (src dst e : TypeId) (n : Int) (hs : P.underlying src = some (.slice e)) (he : P.underlying e = some (.int .u8)) (hd : P.underlying dst = some .string) :
    (convert src dst (.slice (some ⟨w.heap.size, 0, none⟩) 1 1)).run P (w.alloc (.cells #[.int .u8 n] e)) = .ok (.string ⟨#[UInt8.ofNat n.toNat]⟩) (w.alloc (.cells #[.int .u8 n] e)) := by
  rw [run_convert_bytes_string _ src dst e _ 1 1 hs he hd]
  have hl := run_loadCells_list (P := P) (w.alloc (.cells #[.int .u8 n] e)) ⟨w.heap.size, 0, none⟩ [.int .u8 n] (fun j v hj => by
    match j, hj with
    | 0, hj => simp at hj; subst hj; simp [Addr.add])
  rw [run_bytesToString _ _ 1 1 [n] (by simpa using hl)]
  rfl
theorem ret_str {a b : List UInt8} (h : a = b) : Ending.returned (.string ⟨a.toArray⟩) = .returned (.string ⟨b.toArray⟩) := by rw [h]
theorem dec_small {n : Int} (h0 : 0 ≤ n) (h9 : n ≤ 9) : Lib.decDigits n.toNat = [UInt8.ofNat (48 + n).toNat] := by
  rw [Lib.decDigits_one (by omega)]; congr 2; omega
theorem dec_big {n : Int} (h : 10 ≤ n) : Lib.decDigits n.toNat = Lib.decDigits (n / 10).toNat ++ [UInt8.ofNat (48 + n % 10).toNat] := by
  rw [Lib.decDigits, dif_neg (by omega)]
  congr 2
  · congr 1; omega
  · congr 1; omega
theorem dec_len : ∀ (k u : Nat), u ≤ k → (Lib.decDigits u).length ≤ u + 1 := by
  intro k
  induction k with
  | zero => intro u hu; rw [Lib.decDigits_one (by omega)]; simp
  | succ k ih =>
    intro u hu
    by_cases h : u < 10
    · rw [Lib.decDigits_one h]; simp
    · rw [Lib.decDigits, dif_neg h, List.length_append]
      have := ih (u / 10) (by omega)
      simp; omega
set_option maxHeartbeats 400000 in
theorem s_l1Number_small (n : Int) (w : World) (h0 : 0 ≤ n) (h9 : n ≤ 9) :
    Calls Tryd.prog 65 #[.int .i64 n] w fun e w' => e = .returned (.string ⟨(Lib.decDigits n.toNat).toArray⟩) ∧ Below w.heap.size w w' := by
  have hcv := fun (W : World) (n : Int) => run_one_byte (P := Tryd.prog) W 22 9 5 n Tryd.underlying22 Tryd.underlying5 Tryd.underlying9
  have hn0 : ¬ n < 0 := by omega
  have H := Lib.hid (dec_small h0 h9)
  go_enter Tryd.func65, Tryd.ntmps65
  go_wp2
  go_ret
  exact ⟨ret_str (by rw [H.out]), (Below.refl _ _).alloc (Nat.le_refl _) _⟩
theorem ba_append (a b : List UInt8) : (⟨a.toArray⟩ : ByteArray) ++ ⟨b.toArray⟩ = ⟨(a ++ b).toArray⟩ := by
  apply ByteArray.ext
  simp
theorem ret_ba {x : ByteArray} {l : List UInt8} (h : x = ⟨l.toArray⟩) : Ending.returned (.string x) = .returned (.string ⟨l.toArray⟩) := by rw [h]
set_option maxHeartbeats 1600000 in
theorem s_l1Number (k : Nat) : ∀ (n : Int) (w : World), n.toNat ≤ k → 0 ≤ n → n ≤ 9223372036854775807 →
    Calls Tryd.prog 65 #[.int .i64 n] w fun e w' => e = .returned (.string ⟨(Lib.decDigits n.toNat).toArray⟩) ∧ Below w.heap.size w w' := by
  induction k with
  | zero => intro n w hk h0 _; exact s_l1Number_small n w h0 (by omega)
  | succ k ih =>
    intro n w hk h0 hmax
    by_cases h9 : n ≤ 9
    · exact s_l1Number_small n w h0 h9
    · have hcv := run_one_byte_at (P := Tryd.prog) 22 9 5 (48 + n % 10) Tryd.underlying22 Tryd.underlying5 Tryd.underlying9
      have h10 : 10 ≤ n := by omega
      have H := Lib.hid ((ba_append _ _).trans (congrArg (fun l : List UInt8 => (⟨l.toArray⟩ : ByteArray)) (dec_big h10).symm))
      have hl := dec_len _ (n / 10).toNat (Nat.le_refl _)
      have hl2 : (Lib.decDigits (n / 10).toNat).length + 1 ≤ 9223372036854775807 := by omega
      have e1 : IntKind.i64.wrap (48 + n % 10) = 48 + n % 10 := IntWalk.i64_in _ (by omega)
      have e2 : IntKind.u8.wrap (48 + n % 10) = 48 + n % 10 := IntWalk.u8_in _ (by omega)
      have e3 : IntKind.i64.wrap (n.tdiv 10) = n / 10 := IntWalk.i64_quo _ _ (by omega)
      have e4 : n.tmod 10 = n % 10 := IntWalk.rem_in _ _ (by omega)
      have IH := Lib.hid ih
      clear ih h9 hl
      go_enter Tryd.func65, Tryd.ntmps65
      go_wp2_with fail
      go_region_with (go_at_call 65; refine (IH.out _ _ ?_ ?_ ?_).mono ?_; omega; omega; omega; rintro e w1 ⟨rfl, hb⟩; obtain ⟨hc, hf⟩ := bcell hb)
      all_goals
        clear hc hf
        go_wp2
        go_ret
        refine ⟨ret_ba H.out, ?_⟩
      · exact ((Below.refl w.heap.size w).drew.trans hb).alloc hb.size _
      · exact (((Below.refl w.heap.size w).alloc (Nat.le_refl _) _).drew).trans (hb.mono (by simp))
      · exact (((Below.refl w.heap.size w).alloc (Nat.le_refl _) _).drew).trans (hb.mono (by simp))
end Go.Proofs.YtpnondeaiinccaaDoor
