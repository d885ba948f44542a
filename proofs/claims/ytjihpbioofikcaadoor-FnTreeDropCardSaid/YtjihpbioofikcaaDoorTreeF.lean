/-
  The walks of findEntry, hasPlaceFor, l2At, l2Dir.
-/
import Derived.Test.YtjihpbioofikcaaDoorTreeS
namespace Go.Proofs.YtjihpbioofikcaaDoor
open Go.RowKit
set_option linter.unusedVariables false
attribute [local go_sem] mkB_size mkB_extract mkB_get mkB_append mkB_append_raw raw_append_mkB mkB_toList

set_option maxHeartbeats 1000000 in
theorem findEntry_any (es : List En) (p : List UInt8) (g c : Nat) (w : World) (hE : Ents w g es) (hs : Sorted es) (hlen : es.length ≤ 1048576) :
    Calls Tryd.prog 56 #[.slice (some ⟨g, 0, none⟩) es.length c, .string (mkB p)] w
      fun e w' => e = .returned (.tuple #[.int .i64 (atGo es p), .bool (there es p)]) ∧ Below w.heap.size w w' := by
  have hcall := Lib.hid (search_any es p g c w hE hs hlen)
  go_enter Tryd.func56, Tryd.ntmps56
  go_wp2_with fail
  refine hcall.out.mono ?_
  rintro e w1 ⟨rfl, hB⟩
  go_wp2
  exact bodyPost_ret (v := .tuple #[.int .i64 (atGo es p), .bool (there es p)]) (by simp [results, Tryd.results56, go_sem]) rfl ⟨rfl, hB⟩

theorem dirAt_no {es : List En} {p : List UInt8} (h : there es p = false) : dirAt es p = false := by
  unfold there at h; unfold dirAt
  split at h
  · rw [h]; rfl
  · rfl
theorem dirAt_yes {es : List En} {p : List UInt8} {k : Nat} (hk : k < es.length) (ha : atGo es p = k) (h : there es p = true) : dirAt es p = (es[k].kind == 1) := by
  subst ha
  obtain ⟨_, he⟩ := there_iff.1 h
  unfold dirAt
  rw [List.getElem?_eq_getElem hk]
  simp [he]
theorem placeOk_nil (es : List En) : placeOk es [] = true := rfl
theorem placeOk_ne {es : List En} {p : List UInt8} (h : p ≠ []) : placeOk es p = dirAt es p := by
  unfold placeOk; cases p with
  | nil => exact absurd rfl h
  | cons => rfl

set_option maxHeartbeats 4000000 in
theorem hasPlaceFor_any (es : List En) (p : List UInt8) (g c : Nat) (w : World) (hE : Ents w g es) (hs : Sorted es) (hlen : es.length ≤ 1048576) (hp : p.length ≤ 1048576) :
    Calls Tryd.prog 55 #[.slice (some ⟨g, 0, none⟩) es.length c, .string (mkB p)] w
      fun e w' => e = .returned (.bool (placeOk es (pathUp p))) ∧ Below w.heap.size w w' := by
  obtain ⟨u, hu⟩ : ∃ u, pathUp p = u := ⟨_, rfl⟩
  rw [hu]
  replace hu := Lib.hid hu
  have hEh := Lib.hid hE
  have hsh := Lib.hid hs
  have hg := hE.1
  clear hE hs
  by_cases hn : u = []
  · subst hn
    have hres := Lib.hid (placeOk_nil es)
    go_enter Tryd.func55, Tryd.ntmps55
    go_wp2_with fail
    refine (PathUp_any p (by omega) _).mono ?_
    rintro e w1 ⟨rfl, hB⟩
    rw [hu.out]
    go_wp2
    go_ret
    exact ⟨ret_bool (by rw [hres.out]), hB⟩
  have hne : (u == []) = false := by rw [beq_eq_false_iff_ne]; exact hn
  have hres := Lib.hid (placeOk_ne (es := es) hn)
  replace hn := Lib.hid hn
  rcases boolOf (there es u) with ht | ht
  · have hd := Lib.hid (dirAt_no ht.out)
    go_enter Tryd.func55, Tryd.ntmps55
    go_wp2_with fail
    refine (PathUp_any p (by omega) _).mono ?_
    rintro e w1 ⟨rfl, hB⟩
    rw [hu.out]
    have hE1 := Lib.hid (hEh.out.below hB hg)
    go_wp2_with fail
    refine (findEntry_any es u g c _ hE1.out hsh.out hlen).mono ?_
    rintro e w2 ⟨rfl, hB2⟩
    rw [ht.out]
    go_wp2
    go_ret
    exact ⟨ret_bool (by rw [hres.out, hd.out]), hB.trans (hB2.mono hB.size)⟩
  · obtain ⟨k, ha⟩ : ∃ k, atGo es u = k := ⟨_, rfl⟩
    obtain ⟨hk0, -⟩ := there_iff.1 ht.out
    have hk : k < es.length := by omega
    have hkI : (k : Int) < (es.length : Int) := by omega
    clear hk0
    have hd := Lib.hid (dirAt_yes hk ha ht.out)
    replace ha := Lib.hid ha
    go_enter Tryd.func55, Tryd.ntmps55
    go_wp2_with fail
    refine (PathUp_any p (by omega) _).mono ?_
    rintro e w1 ⟨rfl, hB⟩
    rw [hu.out]
    have hE1 := Lib.hid (hEh.out.below hB hg)
    go_wp2_with fail
    refine (findEntry_any es u g c _ hE1.out hsh.out hlen).mono ?_
    rintro e w2 ⟨rfl, hB2⟩
    rw [ht.out, ha.out]
    have hg1 : g < w1.heap.size := Nat.lt_of_lt_of_le hg hB.size
    obtain ⟨c0, c1, c2, c3⟩ := (hE1.out.below hB2 hg1).2 k hk
    go_wp2
    go_ret
    exact ⟨ret_bool (by rw [hres.out, hd.out]), hB.trans (hB2.mono hB.size)⟩

set_option maxHeartbeats 4000000 in
theorem l2At_any (es : List En) (p : List UInt8) (g c : Nat) (w : World) (hE : Ents w g es) (hlen : es.length ≤ 1048576) :
    Calls Tryd.prog 77 #[.slice (some ⟨g, 0, none⟩) es.length c, .string (mkB p)] w
      fun e w' => e = .returned (.tuple #[.int .i64 (atGo es p), .bool (there es p)]) ∧ Below w.heap.size w w' := by
  have hEh := Lib.hid hE
  clear hE
  go_enter Tryd.func77, Tryd.ntmps77
  go_wp2
  go_loop [6] (fun i => ∃ k : Nat, k ≤ es.length ∧ i = .int .i64 k ∧ Hid (∀ j (h : j < es.length), j < k → Op.bytesLess es[j].path p = true)) (fun i => es.length - (intOf i).toNat)
  case atStart => exact ⟨0, Nat.zero_le _, rfl, Lib.hid (fun j h hk => by omega)⟩
  case round =>
    obtain ⟨k, hk, rfl, hall⟩ := hrel
    by_cases hlt : k < es.length
    · have hkI : (k : Int) < (es.length : Int) := by omega
      obtain ⟨c0, c1, c2, c3⟩ := hEh.out.2 k hlt
      rcases boolOf (Op.bytesLess es[k].path p) with hb | hb
      · have hat := Lib.hid (atGo_is hk hall.out (fun _ => hb.out))
        have hbb := hb.out
        rcases lt_tri es[k].path p with hc | hc | hc
        · rw [hc] at hbb; cases hbb
        · have hth := Lib.hid (there_yes hlt hat.out hc)
          have heq : (es[k].path == p) = true := by rw [hc]; simp
          replace hc := Lib.hid hc
          go_wp2_with fail
          go_region
          all_goals go_wp2
          all_goals exact bodyPost_ret (v := .tuple #[.int .i64 k, .bool true]) (by simp [results, Tryd.results77, go_sem]) rfl ⟨by rw [hat.out, hth.out], (Below.refl _ _).drew⟩
        · have hth := Lib.hid (there_no hlt hat.out hc)
          have heq : (es[k].path == p) = false := by rw [beq_eq_false_iff_ne]; intro e; rw [e, lt_irrefl] at hc; cases hc
          replace hc := Lib.hid hc
          go_wp2_with fail
          go_region
          all_goals go_wp2
          all_goals exact bodyPost_ret (v := .tuple #[.int .i64 k, .bool false]) (by simp [results, Tryd.results77, go_sem]) rfl ⟨by rw [hat.out, hth.out], (Below.refl _ _).drew⟩
      · have hbb := hb.out
        go_wp2
        go_round
        case rel => exact ⟨k + 1, by omega, by go_num, Lib.hid (fun j h hj => by
          rcases Nat.lt_or_ge j k with h1 | h1
          · exact hall.out j h h1
          · obtain rfl : j = k := by omega
            exact hb.out)⟩
        case measure => simp [intOf]; omega
    · have hat := Lib.hid (atGo_is hk hall.out (fun h => absurd h hlt))
      have hke : k = es.length := by omega
      have hth := Lib.hid (there_end (hat.out.trans hke))
      replace hke := Lib.hid hke
      go_wp2_with fail
      go_region
      all_goals go_wp2
      all_goals exact bodyPost_ret (v := .tuple #[.int .i64 k, .bool false]) (by simp [results, Tryd.results77, go_sem]) rfl ⟨by rw [hat.out, hth.out], (Below.refl _ _).drew⟩

set_option maxHeartbeats 4000000 in
theorem l2Dir_any (es : List En) (p : List UInt8) (g c : Nat) (w : World) (hE : Ents w g es) (hlen : es.length ≤ 1048576) :
    Calls Tryd.prog 73 #[.slice (some ⟨g, 0, none⟩) es.length c, .string (mkB p)] w
      fun e w' => e = .returned (.bool (placeOk es p)) ∧ Below w.heap.size w w' := by
  have hcall := Lib.hid (l2At_any es p g c w hE hlen)
  have hEh := Lib.hid hE
  have hg := hE.1
  clear hE
  by_cases hn : p = []
  · subst hn
    have hres := Lib.hid (placeOk_nil es)
    go_enter Tryd.func73, Tryd.ntmps73
    go_wp2_with fail
    refine hcall.out.mono ?_
    rintro e w1 ⟨rfl, hB⟩
    go_wp2
    go_ret
    exact ⟨ret_bool (by rw [hres.out]), hB⟩
  have hne : (p == []) = false := by rw [beq_eq_false_iff_ne]; exact hn
  have hres := Lib.hid (placeOk_ne (es := es) hn)
  replace hn := Lib.hid hn
  rcases boolOf (there es p) with ht | ht
  · have hd := Lib.hid (dirAt_no ht.out)
    go_enter Tryd.func73, Tryd.ntmps73
    go_wp2_with fail
    refine hcall.out.mono ?_
    rintro e w1 ⟨rfl, hB⟩
    rw [ht.out]
    go_wp2
    go_ret
    exact ⟨ret_bool (by rw [hres.out, hd.out]), hB⟩
  · obtain ⟨k, ha⟩ : ∃ k, atGo es p = k := ⟨_, rfl⟩
    obtain ⟨hk0, -⟩ := there_iff.1 ht.out
    have hk : k < es.length := by omega
    have hkI : (k : Int) < (es.length : Int) := by omega
    clear hk0
    have hd := Lib.hid (dirAt_yes hk ha ht.out)
    replace ha := Lib.hid ha
    go_enter Tryd.func73, Tryd.ntmps73
    go_wp2_with fail
    refine hcall.out.mono ?_
    rintro e w1 ⟨rfl, hB⟩
    rw [ht.out, ha.out]
    obtain ⟨c0, c1, c2, c3⟩ := (hEh.out.below hB hg).2 k hk
    go_wp2
    go_ret
    exact ⟨ret_bool (by rw [hres.out, hd.out]), hB⟩
end Go.Proofs.YtjihpbioofikcaaDoor
