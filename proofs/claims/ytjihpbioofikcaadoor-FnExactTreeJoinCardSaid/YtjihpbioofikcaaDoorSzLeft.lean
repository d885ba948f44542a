/-
  szEntryS, whatever is left.
-/
import Derived.Test.YtjihpbioofikcaaDoorTreeL
namespace Go.Proofs.YtjihpbioofikcaaDoor
open Go.RowKit
set_option linter.unusedVariables false
set_option linter.unusedSimpArgs false
attribute [local go_sem] mkB_size mkB_extract mkB_get mkB_append mkB_append_raw raw_append_mkB mkB_toList

set_option maxHeartbeats 4000000 in
theorem szEntryS_left (es : List En) (A : Option Addr) (n c : Nat) (L : Int) (w : World) (hL : 0 ≤ L ∧ L ≤ 1048576) (hE : ArgE w A n c es) :
    Calls Tryd.prog 19 #[.slice A n c, .int .i64 L] w (SzPost es w) := by
  have hEh := Lib.hid hE
  obtain ⟨hL0, hL1⟩ := hL
  obtain ⟨hn, hn2, hsz, hrow⟩ := hE
  have hszh := Lib.hid hsz
  clear hsz hrow
  by_cases hl : (n : Int) ≤ L
  case neg =>
    go_enter Tryd.func19, Tryd.ntmps19
    go_wp2
    go_ret
    exact ⟨-1, rfl, by omega, by omega, Lib.hid (fun h => by omega), Below.refl _ _⟩
  replace hn := Lib.hid hn
  go_enter Tryd.func19, Tryd.ntmps19
  go_wp2
  go_loopw [1, 5] (fun l i wr => ∃ (k : Nat) (v : Int), k ≤ n ∧ i = .int .i64 k ∧ l = .int .i64 v ∧ 0 ≤ v ∧ v ≤ 1048576 ∧ Hid (∀ j (h : j < es.length), j < k → es[j].path.length ≤ 1048576 ∧ es[j].text.length ≤ 1048576) ∧ Below w.heap.size w wr) (fun _ i _ => n - (intOf i).toNat)
  case atStart => exact ⟨0, L - (n : Int), Nat.zero_le _, rfl, by first | rfl | go_num, by omega, by omega, Lib.hid (fun j h hk => by omega), Below.refl _ _⟩
  case round =>
    obtain ⟨k, v, hk, rfl, rfl, hv0, hv1, hall, hB1⟩ := hrel
    by_cases hlt : k < n
    · have hke : k < es.length := by have := hn.out; omega
      obtain ⟨-, -, -, hrow⟩ := hEh.out.below hB1
      rcases hrow with he | ⟨b, off, hA, hb, hrow⟩
      · rw [he] at hke; simp at hke
      subst hA
      obtain ⟨c0, c1, c2, c3⟩ := hrow k hke
      clear hrow
      have hkI : (k : Int) < (n : Int) := by omega
      obtain ⟨hp1, ht1⟩ := hszh.out k hke
      obtain ⟨u, hu⟩ : ∃ u, szE es[k].path es[k].text v = u := ⟨_, rfl⟩
      by_cases hu0 : 0 ≤ u
      · have hok := szE_ok hu hu0
        have hnx : Hid (∀ j (h : j < es.length), j < k + 1 → es[j].path.length ≤ 1048576 ∧ es[j].text.length ≤ 1048576) := Lib.hid (fun j h hj => by
          rcases Nat.lt_or_ge j k with h1 | h1
          · exact hall.out j h h1
          · obtain rfl : j = k := by omega
            omega)
        have huv : u ≤ 1048576 := by omega
        replace hok := Lib.hid hok
        replace hu := Lib.hid hu
        go_wp2_with (go_at_call 20; refine (szEntry_any es[k] v ⟨hv0, hv1⟩ hp1 ht1 _).mono ?_; rintro e w2 ⟨rfl, hB2⟩; rw [hu.out])
        go_round
        case rel => exact ⟨k + 1, u, by omega, by go_num, rfl, hu0, huv, hnx, hB1.trans (hB2.mono hB1.size)⟩
        case measure => simp [intOf]; omega
      · have hum : u = -1 := by
          unfold szE at hu
          split at hu
          · exact hu.symm
          · split at hu
            · exact hu.symm
            · omega
        subst hum
        replace hu := Lib.hid hu
        go_wp2_with (go_at_call 20; refine (szEntry_any es[k] v ⟨hv0, hv1⟩ hp1 ht1 _).mono ?_; rintro e w2 ⟨rfl, hB2⟩; rw [hu.out])
        go_ret
        exact ⟨-1, rfl, by omega, by omega, Lib.hid (fun h => by omega), hB1.trans (hB2.mono hB1.size)⟩
    · go_wp2
      go_ret
      exact ⟨v, rfl, by omega, hv1, Lib.hid (fun _ => ⟨by have := hn.out; omega, fun j h => hall.out j h (by have := hn.out; omega)⟩), hB1⟩

end Go.Proofs.YtjihpbioofikcaaDoor
