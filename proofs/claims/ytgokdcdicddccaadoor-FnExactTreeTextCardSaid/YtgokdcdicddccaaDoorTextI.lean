/-
  The program's text of a tree.
-/
import Derived.Test.YtgokdcdicddccaaDoorTextS
import Derived.Test.YtgokdcdicddccaaDoorTextB
namespace Go.Proofs.YtgokdcdicddccaaDoor
open Go.RowKit
set_option linter.unusedVariables false
set_option linter.unusedSimpArgs false
attribute [local go_sem] mkB_size mkB_extract mkB_get mkB_append mkB_append_raw raw_append_mkB mkB_toList

theorem lineE_dir {e : En} {m : Nat} (h : e.kind = 1) (hm : e.mode = (m : Int)) : lineE e = [100, 105, 114, 32] ++ (dd m ++ ([32] ++ (e.path ++ [10]))) := by
  unfold lineE; rw [if_pos h, hm]; simp
theorem lineE_link {e : En} (h : e.kind = 3) : lineE e = [108, 105, 110, 107, 32] ++ (e.path ++ ([32] ++ (e.text ++ [10]))) := by
  unfold lineE; rw [if_neg (by omega), if_pos h]
theorem lineE_file {e : En} {m : Nat} (h : e.kind = 2) (hm : e.mode = (m : Int)) : lineE e = ([102, 105, 108, 101, 32] ++ (dd m ++ ([32] ++ (e.path ++ ([32] ++ (dd e.text.length ++ [10])))))) ++ (e.text ++ [10]) := by
  unfold lineE; rw [if_neg (by omega), if_neg (by omega), hm]; simp
theorem IsB.new (w : World) {B : Nat} (hB : B ≤ w.heap.size) : IsB B w.heap.size (Lib.byteCells []) (w.alloc (.cells #[.pointer none, .slice none 0 0] 48)) :=
  .inl ⟨hB, .slice none 0 0, World.alloc_heap_new w _, ⟨rfl, .inl ⟨rfl, rfl⟩⟩, by simp [Value.ownBlock]⟩
theorem IsB.alloc {B b : Nat} {l : List Value} {w : World} (h : IsB B b l w) (o : Obj) : IsB B b l (w.alloc o) := by
  have hgr := World.grownBy_alloc w o none
  rcases h with ⟨hB, v, hb, ho, hne⟩ | ⟨hB, v, hb, ho, hne⟩
  · exact .inl ⟨hB, v, (hgr.block b (Array.getElem?_eq_some_iff.1 hb).1 (by simp)).trans hb, ho.kept (World.grownBy_alloc w o (some b)) (.inr hne), hne⟩
  · exact .inr ⟨hB, v, (hgr.block b (Array.getElem?_eq_some_iff.1 hb).1 (by simp)).trans hb, ho.kept (World.grownBy_alloc w o (some b)) (.inr hne), hne⟩

set_option maxRecDepth 1000000 in
set_option maxHeartbeats 16000000 in
theorem TreeText_any (es : List En) (g c : Nat) (w : World) (hE : Ents w g es) (hsm : Small es) (hcap : es.length ≤ c) :
    Calls Tryd.prog 18 #[.slice (some ⟨g, 0, none⟩) es.length c] w fun r w' => r = .returned (.string (mkB (treeText es))) ∧ Below w.heap.size w w' := by
  have hEh := Lib.hid hE
  have hsh := Lib.hid hsm
  have hg := hE.1
  have hlen := hsm.1
  clear hE hsm
  rcases boolOf (treeOk es) with hok | hok
  · rw [treeText_bad hok.out]
    go_enter Tryd.func18, Tryd.ntmps18
    go_wp2_with fail
    refine (TreeOk_any es g c _ hEh.out hsh.out hcap).mono ?_
    rintro r w2 ⟨rfl, hB⟩
    rw [hok.out]
    go_wp2
    go_ret
    exact ⟨rfl, hB⟩
  rw [treeText_good hok.out]
  have hl := Lib.hid (liney_tree hok.out hsh.out)
  go_enter Tryd.func18, Tryd.ntmps18
  go_wp2_with fail
  refine (TreeOk_any es g c _ hEh.out hsh.out hcap).mono ?_
  rintro r w2 ⟨rfl, hB⟩
  rw [hok.out]
  have hI0 := Lib.hid (IsB.new w2 hB.size)
  have hz2 := hB.size
  have hB0 := hB.alloc hB.size (.cells #[.pointer none, .slice none 0 0] 48)
  go_wp2
  go_loopw [12] (fun i wr => ∃ k : Nat, k ≤ es.length ∧ i = .int .i64 k ∧ Hid (IsB w.heap.size w2.heap.size (Lib.byteCells (linesE (es.take k))) wr) ∧ Below w.heap.size w wr) (fun i _ => es.length - (intOf i).toNat)
  case atStart => exact ⟨0, Nat.zero_le _, rfl, Lib.hid (by simpa [linesE] using hI0.out), hB0⟩
  clear hB0 hI0
  case round =>
    obtain ⟨k, hk, rfl, hI, hBr⟩ := hrel
    by_cases hlt : k < es.length
    · have hE0 := Lib.hid (hEh.out.below hBr hg)
      obtain ⟨c0, c1, c2, c3⟩ := hE0.out.2 k hlt
      have hkI : (k : Int) < (es.length : Int) := by omega
      have hkc : (k : Int) ≤ (c : Int) := by omega
      have hL := linesE_len (fun i hi => (hl.out i hi).1) k hk
      have hnx := Lib.hid (linesE_next hlt)
      obtain ⟨⟨hm0, hm7, hp, ht, ht2⟩, hkind⟩ := hl.out k hlt
      obtain ⟨m, hm⟩ := Int.eq_ofNat_of_zero_le hm0
      have hm10 : m < 10 := by omega
      have hd1 := dd_short m (by omega)
      have hdir : es[k].kind = 1 → lineE es[k] = _ := fun h => lineE_dir h hm
      have hfil : es[k].kind = 2 → lineE es[k] = _ := fun h => lineE_file h hm
      have hlin : es[k].kind = 3 → lineE es[k] = _ := fun h => lineE_link h
      obtain ⟨LE, hLE⟩ : ∃ x, lineE es[k] = x := ⟨_, rfl⟩
      rw [hLE] at hdir hfil hlin hnx
      clear hLE
      obtain ⟨L, hLL⟩ : ∃ L, linesE (es.take k) = L := ⟨_, rfl⟩
      rw [hLL] at hL hI hnx
      clear hLL
      rw [hm] at c2
      obtain ⟨p, hpp⟩ : ∃ x, es[k].path = x := ⟨_, rfl⟩
      obtain ⟨tx, htx⟩ : ∃ x, es[k].text = x := ⟨_, rfl⟩
      obtain ⟨kd, hkd⟩ : ∃ x, es[k].kind = x := ⟨_, rfl⟩
      rw [hpp] at c0 hp hdir hfil hlin
      rw [htx] at c3 ht ht2 hfil hlin
      rw [hkd] at c1 hkind ht2 hdir hfil hlin
      clear hpp htx hkd hm hm0 hm7
      replace ht2 := Lib.hid ht2
      replace hdir := Lib.hid hdir
      replace hfil := Lib.hid hfil
      replace hlin := Lib.hid hlin
      replace hkind := Lib.hid hkind
      go_wp2_with fail
      obtain ⟨Wb, hWb⟩ : ∃ X, wr.alloc (.cells #[.string (mkB p), .int .i64 kd, .int .i64 m, .string (mkB tx)] 30) = X := ⟨_, rfl⟩
      have hb1 : Box4 Wb wr.heap.size 30 (.string (mkB p)) (.int .i64 kd) (.int .i64 m) (.string (mkB tx)) := by rw [← hWb]; exact Box4.new _ _ _ _ _ _
      have hB1 : Below w.heap.size w Wb := by rw [← hWb]; exact hBr.alloc hBr.size _
      have hI1 := Lib.hid (show IsB w.heap.size w2.heap.size (Lib.byteCells L) Wb by rw [← hWb]; exact hI.out.alloc _)
      rw [hWb]
      clear hWb hBr hE0 c0 c1 c2 c3 hI
      have hz1 := hB1.size
      have c0 := hb1.cell0
      have c1 := hb1.cell1
      have c2 := hb1.cell2
      have c3 := hb1.cell3
      refine (Itoa_any m (by omega) _).mono ?_
      rintro r w3 ⟨rfl, rfl⟩
      obtain ⟨d1, hdd1⟩ : ∃ d, dd m = d := ⟨_, rfl⟩
      rw [hdd1] at hd1 hdir hfil ⊢
      clear hdd1
      rcases hkind.out with hk1 | hk1 | hk1
      · subst hk1
        replace hdir := Lib.hid (hdir.out rfl)
        clear hfil hlin ht2
        go_wp2_with fail
        refine (WriteString_any w.heap.size w2.heap.size L _ _ hI1.out (by (try simp only [List.length_append, List.length_cons, List.length_nil]); omega) hz1).mono ?_
        rintro r w4 ⟨⟨v, rfl⟩, hI4, hB4, hK4⟩
        replace hI4 := Lib.hid hI4
        replace hK4 := Lib.hid hK4
        have hC4 := hB1.trans hB4
        clear hb1 c0 c1 c2 c3
        go_wp2
        go_round
        case rel => exact ⟨k + 1, by omega, by go_num, Lib.hid (by rw [hnx.out, hdir.out]; first | exact hI4.out | simpa using hI4.out), hC4⟩
        case measure => simp [intOf]; omega
      · subst hk1
        replace hfil := Lib.hid (hfil.out rfl)
        have hx100 := ht2.out (by omega) (by omega)
        clear hdir hlin ht2
        have hd2 := dd_short tx.length hx100
        have hIt := fun W => Itoa_any tx.length hx100 W
        obtain ⟨d2, hdd2⟩ : ∃ d, dd tx.length = d := ⟨_, rfl⟩
        rw [hdd2] at hd2 hfil
        simp only [hdd2] at hIt
        clear hdd2
        replace hIt := Lib.hid hIt
        have hI1d : Hid (IsB w.heap.size w2.heap.size (Lib.byteCells L) w3.drew) := Lib.hid hI1.out
        go_wp2_with fail
        first | refine wp_region_noPanic ?_ | skip
        refine wp_region_held_drew (S := (fun W' => W'.cell? ⟨wr.heap.size, 0, none⟩ = some (.string (mkB p)) ∧ W'.cell? ⟨wr.heap.size, 1, none⟩ = some (.int .i64 2) ∧ W'.cell? ⟨wr.heap.size, 2, none⟩ = some (.int .i64 m) ∧ W'.cell? ⟨wr.heap.size, 3, none⟩ = some (.string (mkB tx)))) (by kernel_rfl) ?_ (fun hHeld => ?_)
        · exact ⟨c0, c1, c2, c3⟩
        refine wpAnyH_take (i := 0) (v := ?_) rfl (by kernel_rfl) (by kernel_rfl) (by kernel_rfl) (fun _ _ _ h => h) (Or.inl ⟨by rfl, ?_⟩) (by assumption) ?_
        rotate_left
        · (intro w hSw; (try dsimp only at hSw); go_simp; try with_reducible rfl)
        try simp only [Array.reduceGetElem, Act.put, List.setIfInBounds_toArray, List.set_cons_zero, List.set_cons_succ]
        refine wpAnyH_take (i := 1) (v := .string (mkB ([102, 105, 108, 101, 32] ++ d1))) rfl (by kernel_rfl) (by kernel_rfl) (by kernel_rfl) (fun _ _ _ h => h) (Or.inl ⟨by rfl, ?_⟩) (by assumption) ?_
        · (intro w hSw; (try dsimp only at hSw); go_simp; try (first | omega | (rw [if_neg (by first | omega | (simp only [List.length_append, List.length_cons, List.length_nil]; omega))]) | (simp only [List.length_append, List.length_cons, List.length_nil]; omega)))
        try simp only [Array.reduceGetElem, Act.put, List.setIfInBounds_toArray, List.set_cons_zero, List.set_cons_succ]
        refine wpAnyH_take (i := 2) (v := .string (mkB ([102, 105, 108, 101, 32] ++ (d1 ++ [32])))) rfl (by kernel_rfl) (by kernel_rfl) (by kernel_rfl) (fun _ _ _ h => h) (Or.inl ⟨by rfl, ?_⟩) (by assumption) ?_
        · (intro w hSw; (try dsimp only at hSw); go_simp; try (first | omega | (rw [if_neg (by first | omega | (simp only [List.length_append, List.length_cons, List.length_nil]; omega))]) | (simp only [List.length_append, List.length_cons, List.length_nil]; omega)))
        try simp only [Array.reduceGetElem, Act.put, List.setIfInBounds_toArray, List.set_cons_zero, List.set_cons_succ]
        refine wpAnyH_take (i := 3) (v := ?_) rfl (by kernel_rfl) (by kernel_rfl) (by kernel_rfl) (fun _ _ _ h => h) (Or.inl ⟨by rfl, ?_⟩) (by assumption) ?_
        rotate_left
        · (intro w hSw; (try dsimp only at hSw); go_simp; try with_reducible rfl)
        try simp only [Array.reduceGetElem, Act.put, List.setIfInBounds_toArray, List.set_cons_zero, List.set_cons_succ]
        refine wpAnyH_take (i := 4) (v := ?_) rfl (by kernel_rfl) (by kernel_rfl) (by kernel_rfl) (fun _ _ _ h => h) (Or.inl ⟨by rfl, ?_⟩) (by assumption) ?_
        rotate_left
        · (intro w hSw; (try dsimp only at hSw); go_simp; try with_reducible rfl)
        try simp only [Array.reduceGetElem, Act.put, List.setIfInBounds_toArray, List.set_cons_zero, List.set_cons_succ]
        refine wpAnyH_take (i := 5) (v := .string (mkB ([102, 105, 108, 101, 32] ++ (d1 ++ ([32] ++ p))))) rfl (by kernel_rfl) (by kernel_rfl) (by kernel_rfl) (fun _ _ _ h => h) (Or.inl ⟨by rfl, ?_⟩) (by assumption) ?_
        · (intro w hSw; (try dsimp only at hSw); go_simp; try (first | omega | (rw [if_neg (by first | omega | (simp only [List.length_append, List.length_cons, List.length_nil]; omega))]) | (simp only [List.length_append, List.length_cons, List.length_nil]; omega)))
        try simp only [Array.reduceGetElem, Act.put, List.setIfInBounds_toArray, List.set_cons_zero, List.set_cons_succ]
        refine wpAnyH_take (i := 6) (v := .string (mkB ([102, 105, 108, 101, 32] ++ (d1 ++ ([32] ++ (p ++ [32])))))) rfl (by kernel_rfl) (by kernel_rfl) (by kernel_rfl) (fun _ _ _ h => h) (Or.inl ⟨by rfl, ?_⟩) (by assumption) ?_
        · (intro w hSw; (try dsimp only at hSw); go_simp; try (first | omega | (rw [if_neg (by first | omega | (simp only [List.length_append, List.length_cons, List.length_nil]; omega))]) | (simp only [List.length_append, List.length_cons, List.length_nil]; omega)))
        try simp only [Array.reduceGetElem, Act.put, List.setIfInBounds_toArray, List.set_cons_zero, List.set_cons_succ]
        refine wpAnyH_take (i := 7) (v := ?_) rfl (by kernel_rfl) (by kernel_rfl) (by kernel_rfl) (fun _ _ _ h => h) (Or.inl ⟨by rfl, ?_⟩) (by assumption) ?_
        rotate_left
        · (intro w hSw; (try dsimp only at hSw); go_simp; try with_reducible rfl)
        try simp only [Array.reduceGetElem, Act.put, List.setIfInBounds_toArray, List.set_cons_zero, List.set_cons_succ]
        refine wpAnyH_take (i := 8) (v := ?_) rfl (by kernel_rfl) (by kernel_rfl) (by kernel_rfl) (fun _ _ _ h => h) (Or.inl ⟨by rfl, ?_⟩) (by assumption) ?_
        rotate_left
        · (intro w hSw; (try dsimp only at hSw); go_simp; try with_reducible rfl)
        try simp only [Array.reduceGetElem, Act.put, List.setIfInBounds_toArray, List.set_cons_zero, List.set_cons_succ]
        refine wpAnyH_take (i := 9) (v := ?_) rfl (by kernel_rfl) (by kernel_rfl) (by kernel_rfl) (fun _ _ _ h => h) (Or.inl ⟨by rfl, ?_⟩) (by assumption) ?_
        rotate_left
        · (intro w hSw; (try dsimp only at hSw); go_simp; try with_reducible rfl)
        try simp only [Array.reduceGetElem, Act.put, List.setIfInBounds_toArray, List.set_cons_zero, List.set_cons_succ]
        refine wpAnyH_ready (rs := [10]) (by kernel_rfl) (by simp) ?_
        refine AllReadyH.cons rfl (fun K hK => ?_) AllReadyH.nil
        go_simp
        go_at_call 30
        refine (hIt.out _).mono ?_
        rintro r w4 ⟨rfl, rfl⟩
        refine hK.out _ _ ?_ (fun hHeld => ?_)
        · (try dsimp only); exact ⟨c0, c1, c2, c3⟩
        clear hK K
        try simp only [Array.reduceGetElem, Act.put, List.setIfInBounds_toArray, List.set_cons_zero, List.set_cons_succ]
        refine wpAnyH_take (i := 11) (v := .string (mkB ([102, 105, 108, 101, 32] ++ (d1 ++ ([32] ++ (p ++ ([32] ++ d2))))))) rfl (by kernel_rfl) (by kernel_rfl) (by kernel_rfl) (fun _ _ _ h => h) (Or.inl ⟨by rfl, ?_⟩) (by assumption) ?_
        · (intro w hSw; (try dsimp only at hSw); go_simp; try (first | omega | (rw [if_neg (by first | omega | (simp only [List.length_append, List.length_cons, List.length_nil]; omega))]) | (simp only [List.length_append, List.length_cons, List.length_nil]; omega)))
        try simp only [Array.reduceGetElem, Act.put, List.setIfInBounds_toArray, List.set_cons_zero, List.set_cons_succ]
        refine wpAnyH_take (i := 12) (v := .string (mkB ([102, 105, 108, 101, 32] ++ (d1 ++ ([32] ++ (p ++ ([32] ++ (d2 ++ [10])))))))) rfl (by kernel_rfl) (by kernel_rfl) (by kernel_rfl) (fun _ _ _ h => h) (Or.inl ⟨by rfl, ?_⟩) (by assumption) ?_
        · (intro w hSw; (try dsimp only at hSw); go_simp; try (first | omega | (rw [if_neg (by first | omega | (simp only [List.length_append, List.length_cons, List.length_nil]; omega))]) | (simp only [List.length_append, List.length_cons, List.length_nil]; omega)))
        try simp only [Array.reduceGetElem, Act.put, List.setIfInBounds_toArray, List.set_cons_zero, List.set_cons_succ]
        refine wpAnyH_ready (rs := [13]) (by kernel_rfl) (by simp) ?_
        refine AllReadyH.cons rfl (fun K hK => ?_) AllReadyH.nil
        go_simp
        go_at_call 31
        refine (WriteString_any w.heap.size w2.heap.size L (102 :: 105 :: 108 :: 101 :: 32 :: (d1 ++ 32 :: (p ++ 32 :: (d2 ++ [10])))) w3.drew hI1d.out (by (try simp only [List.length_append, List.length_cons, List.length_nil]); omega) hz1).mono ?_
        rintro r w4 ⟨⟨v, rfl⟩, hI4, hB4, hK4⟩
        have hb4 : Box4 w4 wr.heap.size 30 (.string (mkB p)) (.int .i64 2) (.int .i64 m) (.string (mkB tx)) := (hK4 _ _ _ _ hb1 (by decide) (by decide)).trans hb1
        replace hI4 := Lib.hid hI4
        clear hK4
        have hC4 := Below.trans hB1.drew hB4
        have q0 := hb4.cell0; have q1 := hb4.cell1; have q2 := hb4.cell2; have q3 := hb4.cell3
        refine hK.out _ _ ?_ (fun hHeld => ?_)
        · (try dsimp only); exact ⟨q0, q1, q2, q3⟩
        clear hK K
        try simp only [Array.reduceGetElem, Act.put, List.setIfInBounds_toArray, List.set_cons_zero, List.set_cons_succ]
        refine wpAnyH_done (by kernel_rfl) ?_ _
        try refine NoPanic.normal ?_
        (try dsimp only)
        clear hHeld
        have hz4 := hC4.size
        go_wp2_with fail
        refine (WriteString_any w.heap.size w2.heap.size _ _ _ hI4.out (by (try simp only [List.length_append, List.length_cons, List.length_nil]); omega) hz4).mono ?_
        rintro r w5 ⟨⟨v, rfl⟩, hI5, hB5, hK5⟩
        replace hI5 := Lib.hid hI5
        replace hK5 := Lib.hid hK5
        have hC5 := hC4.trans hB5
        clear hb1 hb4 c0 c1 c2 c3 q0 q1 q2 q3
        go_wp2
        go_round
        case rel => exact ⟨k + 1, by omega, by go_num, Lib.hid (by rw [hnx.out, hfil.out]; first | exact hI5.out | simpa using hI5.out), hC5⟩
        case measure => simp [intOf]; omega
      · subst hk1
        replace hlin := Lib.hid (hlin.out rfl)
        clear hfil hdir ht2
        go_wp2_with fail
        refine (WriteString_any w.heap.size w2.heap.size L _ _ hI1.out (by (try simp only [List.length_append, List.length_cons, List.length_nil]); omega) hz1).mono ?_
        rintro r w4 ⟨⟨v, rfl⟩, hI4, hB4, hK4⟩
        replace hI4 := Lib.hid hI4
        replace hK4 := Lib.hid hK4
        have hC4 := hB1.trans hB4
        clear hb1 c0 c1 c2 c3
        go_wp2
        go_round
        case rel => exact ⟨k + 1, by omega, by go_num, Lib.hid (by rw [hnx.out, hlin.out]; first | exact hI4.out | simpa using hI4.out), hC4⟩
        case measure => simp [intOf]; omega
    · obtain rfl : k = es.length := by omega
      have hfl : linesE (es.take es.length) = linesE es := by rw [List.take_length]
      rw [hfl] at hI
      clear hfl
      have hzr := hBr.size
      go_wp2_with fail
      refine (String_any w.heap.size w2.heap.size (linesE es) _ hI.out hzr).mono ?_
      rintro r w4 ⟨rfl, hB4⟩
      have hC4 := hBr.trans hB4
      go_wp2
      go_ret
      exact ⟨rfl, hC4⟩
end Go.Proofs.YtgokdcdicddccaaDoor
