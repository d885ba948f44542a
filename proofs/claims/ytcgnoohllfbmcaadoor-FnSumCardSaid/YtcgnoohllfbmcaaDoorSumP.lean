/-
  The sum of SHA-256, as plain functions on lists of words; and what is known of it without the program.
-/
import Derived.Test.YtcgnoohllfbmcaaDoorSumT
namespace Go.Proofs.YtcgnoohllfbmcaaDoor

/-- the eight words of a state -/
structure S8 where
  a : UInt32
  b : UInt32
  c : UInt32
  d : UInt32
  e : UInt32
  f : UInt32
  g : UInt32
  h : UInt32
  deriving DecidableEq
def S8.list (s : S8) : List UInt32 := [s.a, s.b, s.c, s.d, s.e, s.f, s.g, s.h]
def addW (x y : UInt32) : UInt32 := x + y
def xorW (x y : UInt32) : UInt32 := x ^^^ y
def andW (x y : UInt32) : UInt32 := x &&& y
def notW (x : UInt32) : UInt32 := UInt32.ofNat (4294967295 ^^^ x.toNat)
def chF (e f g : UInt32) : UInt32 := xorW (andW e f) (andW (notW e) g)
def majF (a b c : UInt32) : UInt32 := xorW (xorW (andW a b) (andW a c)) (andW b c)
def sg1 (e : UInt32) : UInt32 := xorW (xorW (rotr e 6) (rotr e 11)) (rotr e 25)
def sg0 (a : UInt32) : UInt32 := xorW (xorW (rotr a 2) (rotr a 13)) (rotr a 22)
/-- a word divided -/
def shrW (x : UInt32) (n : Nat) : UInt32 := UInt32.ofNat (x.toNat / n)
def lowF (x : UInt32) : UInt32 := xorW (xorW (rotr x 7) (rotr x 18)) (shrW x 8)
def highF (x : UInt32) : UInt32 := xorW (xorW (rotr x 17) (rotr x 19)) (shrW x 1024)
def t1F (s : S8) (k w : UInt32) : UInt32 := addW (addW (addW (addW s.h (sg1 s.e)) (chF s.e s.f s.g)) k) w
def t2F (s : S8) : UInt32 := addW (sg0 s.a) (majF s.a s.b s.c)
def round (s : S8) (k w : UInt32) : S8 := ⟨addW (t1F s k w) (t2F s), s.a, s.b, s.c, addW s.d (t1F s k w), s.e, s.f, s.g⟩
def word4 (b0 b1 b2 b3 : UInt8) : UInt32 := UInt32.ofNat (b0.toNat * 16777216 + b1.toNat * 65536 + b2.toNat * 256 + b3.toNat)
def nextW (b : List UInt8) (ws : List UInt32) (k : Nat) : UInt32 :=
  if k < 16 then word4 (b.getD (4 * k) 0) (b.getD (4 * k + 1) 0) (b.getD (4 * k + 2) 0) (b.getD (4 * k + 3) 0)
  else addW (addW (addW (ws.getD (k - 16) 0) (lowF (ws.getD (k - 15) 0))) (ws.getD (k - 7) 0)) (highF (ws.getD (k - 2) 0))
def wsAt (b : List UInt8) : Nat → List UInt32
  | 0 => []
  | k + 1 => wsAt b k ++ [nextW b (wsAt b k) k]
def sumKs : List UInt32 := [1116352408, 1899447441, 3049323471, 3921009573, 961987163, 1508970993, 2453635748, 2870763221, 3624381080, 310598401, 607225278, 1426881987, 1925078388, 2162078206, 2614888103, 3248222580, 3835390401, 4022224774, 264347078, 604807628, 770255983, 1249150122, 1555081692, 1996064986, 2554220882, 2821834349, 2952996808, 3210313671, 3336571891, 3584528711, 113926993, 338241895, 666307205, 773529912, 1294757372, 1396182291, 1695183700, 1986661051, 2177026350, 2456956037, 2730485921, 2820302411, 3259730800, 3345764771, 3516065817, 3600352804, 4094571909, 275423344, 430227734, 506948616, 659060556, 883997877, 958139571, 1322822218, 1537002063, 1747873779, 1955562222, 2024104815, 2227730452, 2361852424, 2428436474, 2756734187, 3204031479, 3329325298]
def roundsAt (s : S8) (ws : List UInt32) : Nat → S8
  | 0 => s
  | k + 1 => round (roundsAt s ws k) (sumKs.getD k 0) (ws.getD k 0)
def addS (s t : S8) : S8 := ⟨addW s.a t.a, addW s.b t.b, addW s.c t.c, addW s.d t.d, addW s.e t.e, addW s.f t.f, addW s.g t.g, addW s.h t.h⟩
def blk (s : S8) (b : List UInt8) : S8 := addS s (roundsAt s (wsAt b 64) 64)
def initS : S8 := ⟨1779033703, 3144134277, 1013904242, 2773480762, 1359893119, 2600822924, 528734635, 1541459225⟩
def blockAt (data : List UInt8) (k : Nat) : List UInt8 := (data.drop (64 * k)).take 64
def stAt (data : List UInt8) : Nat → S8
  | 0 => initS
  | k + 1 => blk (stAt data k) (blockAt data k)
def padN (n : Nat) : Nat := (119 - n % 64) % 64
def lenB (n : Nat) : List UInt8 := [56, 48, 40, 32, 24, 16, 8, 0].map fun s => UInt8.ofNat (n * 8 / 2 ^ s)
def padded (l : List UInt8) : List UInt8 := l ++ [128] ++ List.replicate (padN l.length) 0 ++ lenB l.length
def figL : List UInt8 := [48, 49, 50, 51, 52, 53, 54, 55, 56, 57, 97, 98, 99, 100, 101, 102]
def hexD (n : Nat) : UInt8 := figL.getD n 0
def hex8 (w : UInt32) : List UInt8 := [28, 24, 20, 16, 12, 8, 4, 0].map fun s => hexD (w.toNat / 2 ^ s % 16)
def sumS (l : List UInt8) : S8 := stAt (padded l) ((padded l).length / 64)
def sumT (l : List UInt8) : List UInt8 := hex8 (sumS l).a ++ hex8 (sumS l).b
def bytes4 (w : UInt32) : List UInt8 := [24, 16, 8, 0].map fun s => UInt8.ofNat (w.toNat / 2 ^ s)
def figs (l : List UInt8) : List UInt8 := l.flatMap fun b => [hexD (b.toNat / 16), hexD (b.toNat % 16)]

theorem addW_assoc (x y z : UInt32) : addW (addW x y) z = addW x (addW y z) := UInt32.add_assoc x y z
theorem wsAt_len (b : List UInt8) : ∀ k, (wsAt b k).length = k
  | 0 => rfl
  | k + 1 => by unfold wsAt; rw [List.length_append, wsAt_len b k]; rfl
theorem sumKs_len : sumKs.length = 64 := rfl
theorem sumT_abc : sumT [97, 98, 99] = [98, 97, 55, 56, 49, 54, 98, 102, 56, 102, 48, 49, 99, 102, 101, 97] := by decide +kernel
theorem sumT_len (l : List UInt8) : (sumT l).length = 16 := rfl
theorem figs_word (w : UInt32) : figs (bytes4 w) = hex8 w := by
  have h := w.toNat_lt
  have e : ∀ n : Nat, (UInt8.ofNat n).toNat = n % 256 := fun n => UInt8.toNat_ofNat'
  simp only [figs, bytes4, hex8, List.map_cons, List.map_nil, List.flatMap_cons, List.flatMap_nil, e, List.cons_append, List.nil_append, List.append_nil]
  refine congr (congrArg _ (congrArg hexD (by omega))) ?_
  refine congr (congrArg _ (congrArg hexD (by omega))) ?_
  refine congr (congrArg _ (congrArg hexD (by omega))) ?_
  refine congr (congrArg _ (congrArg hexD (by omega))) ?_
  refine congr (congrArg _ (congrArg hexD (by omega))) ?_
  refine congr (congrArg _ (congrArg hexD (by omega))) ?_
  refine congr (congrArg _ (congrArg hexD (by omega))) ?_
  refine congr (congrArg _ (congrArg hexD (by omega))) rfl
theorem figs_append (a b : List UInt8) : figs (a ++ b) = figs a ++ figs b := by simp [figs]
theorem figs_sum (s : S8) : (figs (s.list.flatMap bytes4)).take 16 = hex8 s.a ++ hex8 s.b := by
  simp only [S8.list, List.flatMap_cons, figs_append, figs_word]
  rw [← List.append_assoc]
  exact List.take_left' (l₁ := hex8 s.a ++ hex8 s.b) (i := 16) rfl
end Go.Proofs.YtcgnoohllfbmcaaDoor
