/-
  The walks of the laws' own functions on entries: sizes, copies, comparisons.
-/
import Derived.Test.YtjihpbioofikcaaDoorTreeOk
import Derived.OwnWalk
namespace Go.Proofs.YtjihpbioofikcaaDoor
open Go.RowKit
set_option linter.unusedVariables false
set_option linter.unusedSimpArgs false
attribute [local go_sem] mkB_size mkB_extract mkB_get mkB_append mkB_append_raw raw_append_mkB mkB_toList

/-- entries that came in as an argument: anywhere in a block -/
def ArgE (w : World) (A : Option Addr) (n c : Nat) (es : List En) : Prop :=
  n = es.length ∧ n ≤ 9223372036854775807 ∧ (∀ i (h : i < es.length), es[i].path.length ≤ 9223372036854775807 ∧ es[i].text.length ≤ 9223372036854775807) ∧
  (es = [] ∨ ∃ b off, A = some ⟨b, off, none⟩ ∧ b < w.heap.size ∧ ∀ i (h : i < es.length),
    w.cell? ⟨b, off + i * 4, none⟩ = some (.string (mkB es[i].path)) ∧ w.cell? ⟨b, off + i * 4 + 1, none⟩ = some (.int .i64 es[i].kind) ∧
    w.cell? ⟨b, off + i * 4 + 2, none⟩ = some (.int .i64 es[i].mode) ∧ w.cell? ⟨b, off + i * 4 + 3, none⟩ = some (.string (mkB es[i].text)))
theorem ArgE.below {w w' : World} {A : Option Addr} {n c : Nat} {es : List En} (h : ArgE w A n c es) (hB : Below w.heap.size w w') : ArgE w' A n c es := by
  obtain ⟨h1, h2, h3, h4⟩ := h
  refine ⟨h1, h2, h3, ?_⟩
  rcases h4 with h4 | ⟨b, off, rfl, hb, h4⟩
  · exact .inl h4
  · refine .inr ⟨b, off, rfl, Nat.lt_of_lt_of_le hb hB.size, fun i hi => ?_⟩
    have hs := hB.block b hb
    obtain ⟨c0, c1, c2, c3⟩ := h4 i hi
    exact ⟨(cell_same hs _).trans c0, (cell_same hs _).trans c1, (cell_same hs _).trans c2, (cell_same hs _).trans c3⟩

def szE (p t : List UInt8) (left : Int) : Int := if left < p.length then -1 else if left < p.length + t.length then -1 else left - p.length - t.length
set_option maxHeartbeats 1000000 in
theorem szEntry_any (e : En) (left : Int) (hl : 0 ≤ left ∧ left ≤ 1048576) (hp : e.path.length ≤ 9223372036854775807) (ht : e.text.length ≤ 9223372036854775807) (w : World) :
    Calls Tryd.prog 20 #[enV e, .int .i64 left] w fun r w' => r = .returned (.int .i64 (szE e.path e.text left)) ∧ Below w.heap.size w w' := by
  obtain ⟨p, kind, mode, t⟩ := e
  simp only at hp ht ⊢
  obtain ⟨hl0, hl1⟩ := hl
  by_cases h1 : left < p.length
  · have hs := Lib.hid (show szE p t left = -1 by unfold szE; rw [if_pos h1])
    go_enter Tryd.func20, Tryd.ntmps20
    go_wp2
    go_ret
    exact ⟨ret_int hs.out.symm, (Below.refl _ _).alloc (Nat.le_refl _) _⟩
  by_cases h2 : left < p.length + t.length
  · have hs := Lib.hid (show szE p t left = -1 by unfold szE; rw [if_neg h1, if_pos h2])
    go_enter Tryd.func20, Tryd.ntmps20
    go_wp2
    go_ret
    exact ⟨ret_int hs.out.symm, (Below.refl _ _).alloc (Nat.le_refl _) _⟩
  have hs := Lib.hid (show szE p t left = left - p.length - t.length by unfold szE; rw [if_neg h1, if_neg h2])
  go_enter Tryd.func20, Tryd.ntmps20
  go_wp2
  go_ret
  exact ⟨ret_int hs.out.symm, (Below.refl _ _).alloc (Nat.le_refl _) _⟩
theorem szE_ok {p t : List UInt8} {left v : Int} (h : szE p t left = v) (h0 : 0 ≤ v) : v ≤ left ∧ (p.length : Int) ≤ left ∧ (t.length : Int) ≤ left := by
  unfold szE at h
  split at h
  · omega
  · split at h
    · omega
    · omega

/-- what szEntryS says -/
def SzPost (es : List En) (w : World) (r : Ending) (w' : World) : Prop := ∃ v : Int, r = .returned (.int .i64 v) ∧ -1 ≤ v ∧ v ≤ 1048576 ∧ Hid (0 ≤ v → Small es) ∧ Below w.heap.size w w'
set_option maxHeartbeats 4000000 in
theorem szEntryS_any (es : List En) (A : Option Addr) (n c : Nat) (w : World) (hE : ArgE w A n c es) :
    Calls Tryd.prog 19 #[.slice A n c, .int .i64 1048576] w (SzPost es w) := by
  have hEh := Lib.hid hE
  obtain ⟨hn, hn2, hsz, hrow⟩ := hE
  have hszh := Lib.hid hsz
  clear hsz hrow
  by_cases hl : n ≤ 1048576
  case neg =>
    go_enter Tryd.func19, Tryd.ntmps19
    go_wp2
    go_ret
    exact ⟨-1, rfl, by omega, by omega, Lib.hid (fun h => by omega), Below.refl _ _⟩
  replace hn := Lib.hid hn
  go_enter Tryd.func19, Tryd.ntmps19
  go_wp2
  go_loopw [1, 5] (fun l i wr => ∃ (k : Nat) (v : Int), k ≤ n ∧ i = .int .i64 k ∧ l = .int .i64 v ∧ 0 ≤ v ∧ v ≤ 1048576 ∧ Hid (∀ j (h : j < es.length), j < k → es[j].path.length ≤ 1048576 ∧ es[j].text.length ≤ 1048576) ∧ Below w.heap.size w wr) (fun _ i _ => n - (intOf i).toNat)
  case atStart => exact ⟨0, (1048576 : Int) - (n : Int), Nat.zero_le _, rfl, by first | rfl | go_num, by omega, by omega, Lib.hid (fun j h hk => by omega), Below.refl _ _⟩
  case round =>
    obtain ⟨k, v, hk, rfl, rfl, hv0, hv1, hall, hB1⟩ := hrel
    by_cases hlt : k < n
    · have hke : k < es.length := by have := hn.out; omega
      obtain ⟨-, -, -, hrow⟩ := hEh.out.below hB1
      rcases hrow with he | ⟨b, off, hA, hb, hrow⟩
      · rw [he] at hke; simp at hke
      subst hA
      obtain ⟨c0, c1, c2, c3⟩ := hrow k hke
      clear hrow
      have hkI : (k : Int) < (n : Int) := by omega
      obtain ⟨hp1, ht1⟩ := hszh.out k hke
      obtain ⟨u, hu⟩ : ∃ u, szE es[k].path es[k].text v = u := ⟨_, rfl⟩
      by_cases hu0 : 0 ≤ u
      · have hok := szE_ok hu hu0
        have hnx : Hid (∀ j (h : j < es.length), j < k + 1 → es[j].path.length ≤ 1048576 ∧ es[j].text.length ≤ 1048576) := Lib.hid (fun j h hj => by
          rcases Nat.lt_or_ge j k with h1 | h1
          · exact hall.out j h h1
          · obtain rfl : j = k := by omega
            omega)
        have huv : u ≤ 1048576 := by omega
        replace hok := Lib.hid hok
        replace hu := Lib.hid hu
        go_wp2_with (go_at_call 20; refine (szEntry_any es[k] v ⟨hv0, hv1⟩ hp1 ht1 _).mono ?_; rintro e w2 ⟨rfl, hB2⟩; rw [hu.out])
        go_round
        case rel => exact ⟨k + 1, u, by omega, by go_num, rfl, hu0, huv, hnx, hB1.trans (hB2.mono hB1.size)⟩
        case measure => simp [intOf]; omega
      · have hum : u = -1 := by
          unfold szE at hu
          split at hu
          · exact hu.symm
          · split at hu
            · exact hu.symm
            · omega
        subst hum
        replace hu := Lib.hid hu
        go_wp2_with (go_at_call 20; refine (szEntry_any es[k] v ⟨hv0, hv1⟩ hp1 ht1 _).mono ?_; rintro e w2 ⟨rfl, hB2⟩; rw [hu.out])
        go_ret
        exact ⟨-1, rfl, by omega, by omega, Lib.hid (fun h => by omega), hB1.trans (hB2.mono hB1.size)⟩
    · go_wp2
      go_ret
      exact ⟨v, rfl, by omega, hv1, Lib.hid (fun _ => ⟨by have := hn.out; omega, fun j h => hall.out j h (by have := hn.out; omega)⟩), hB1⟩

set_option maxHeartbeats 1000000 in
theorem toEntry_any (e : En) (w : World) :
    Calls Tryd.prog 23 #[enV e] w fun r w' => r = .returned (enV e) ∧ Below w.heap.size w w' := by
  obtain ⟨p, kind, mode, t⟩ := e
  go_enter Tryd.func23, Tryd.ntmps23
  go_wp2
  refine bodyPost_ret (v := .agg #[.string (mkB p), .int .i64 kind, .int .i64 mode, .string (mkB t)]) (by simp [results, Tryd.results23, go_sem]) rfl ⟨rfl, ?_⟩
  exact (((Below.refl _ w).alloc (Nat.le_refl _) _).alloc (by simp) _).alloc (by simp; omega) _
set_option maxHeartbeats 1000000 in
theorem eqEntry_any (e : En) (w : World) :
    Calls Tryd.prog 58 #[enV e, enV e] w fun r w' => r = .returned (.bool true) ∧ Below w.heap.size w w' := by
  obtain ⟨p, kind, mode, t⟩ := e
  go_enter Tryd.func58, Tryd.ntmps58
  go_wp2
  go_ret
  exact ⟨rfl, ((Below.refl _ w).alloc (Nat.le_refl _) _).alloc (by simp) _⟩
end Go.Proofs.YtjihpbioofikcaaDoor
