/- What sums come to: the functions themselves, with no program in sight. -/
import Derived.Test.YtokekdbdnonebaaEngN
namespace Sc
open Go
def rot (x : UInt32) (j : Nat) : UInt32 := x <<< UInt32.ofNat (32 - j) ||| x >>> UInt32.ofNat j
def kK : List UInt32 := [1116352408, 1899447441, 3049323471, 3921009573, 961987163, 1508970993, 2453635748, 2870763221, 3624381080, 310598401, 607225278, 1426881987, 1925078388, 2162078206, 2614888103, 3248222580, 3835390401, 4022224774, 264347078, 604807628, 770255983, 1249150122, 1555081692, 1996064986, 2554220882, 2821834349, 2952996808, 3210313671, 3336571891, 3584528711, 113926993, 338241895, 666307205, 773529912, 1294757372, 1396182291, 1695183700, 1986661051, 2177026350, 2456956037, 2730485921, 2820302411, 3259730800, 3345764771, 3516065817, 3600352804, 4094571909, 275423344, 430227734, 506948616, 659060556, 883997877, 958139571, 1322822218, 1537002063, 1747873779, 1955562222, 2024104815, 2227730452, 2361852424, 2428436474, 2756734187, 3204031479, 3329325298]
instance : RowOk 64 (cWs kK) := ⟨rfl, cWs_one _⟩
def wstep (b : List UInt8) (w : List UInt32) (i : Nat) : UInt32 :=
  if i < 16 then (gB b (4 * i)).toUInt32 <<< UInt32.ofNat 24 ||| (gB b (4 * i + 1)).toUInt32 <<< UInt32.ofNat 16 ||| (gB b (4 * i + 2)).toUInt32 <<< UInt32.ofNat 8 ||| (gB b (4 * i + 3)).toUInt32
  else gW w (i - 16) + (rot (gW w (i - 15)) 7 ^^^ rot (gW w (i - 15)) 18 ^^^ gW w (i - 15) >>> UInt32.ofNat 3) + gW w (i - 7) + (rot (gW w (i - 2)) 17 ^^^ rot (gW w (i - 2)) 19 ^^^ gW w (i - 2) >>> UInt32.ofNat 10)
def sched (b : List UInt8) : Nat → List UInt32
  | 0 => List.replicate 64 0
  | i + 1 => (sched b i).set i (wstep b (sched b i) i)
theorem sched_length (b : List UInt8) : ∀ i, (sched b i).length = 64
  | 0 => by simp [sched]
  | i + 1 => by simp [sched, sched_length b i]
def vstep (w : List UInt32) (v : List UInt32) (i : Nat) : List UInt32 :=
  let one := gW v 7 + (rot (gW v 4) 6 ^^^ rot (gW v 4) 11 ^^^ rot (gW v 4) 25) + (gW v 6 ^^^ gW v 4 &&& (gW v 5 ^^^ gW v 6)) + gW kK i + gW w i
  let two := (rot (gW v 0) 2 ^^^ rot (gW v 0) 13 ^^^ rot (gW v 0) 22) + (gW v 0 &&& gW v 1 ||| gW v 2 &&& (gW v 0 ||| gW v 1))
  [one + two, gW v 0, gW v 1, gW v 2, gW v 3 + one, gW v 4, gW v 5, gW v 6]
def vrun (w : List UInt32) (v : List UInt32) : Nat → List UInt32
  | 0 => v
  | i + 1 => vstep w (vrun w v i) i
theorem vrun_length (w v : List UInt32) (h : v.length = 8) : ∀ i, (vrun w v i).length = 8
  | 0 => h
  | _ + 1 => rfl
theorem rowW {m : Nat} {l : List UInt32} (h : l.length = m) : RowOk m (cWs l) := ⟨by rw [cWs_length, h], cWs_one _⟩
theorem rowB {m : Nat} {l : List UInt8} (h : l.length = m) : RowOk m (cBs l) := ⟨by rw [cBs_length, h], cBs_one _⟩
def vadd (s v : List UInt32) : Nat → List UInt32
  | 0 => s
  | i + 1 => (vadd s v i).set i (gW (vadd s v i) i + gW v i)
theorem vadd_length (s v : List UInt32) (h : s.length = 8) : ∀ i, (vadd s v i).length = 8
  | 0 => h
  | i + 1 => by simp [vadd, vadd_length s v h i]
/-- A block taken in. -/
def takeB (s : List UInt32) (b : List UInt8) : List UInt32 := vadd s (vrun (sched b 64) s 64) 8
theorem takeB_length (s : List UInt32) (b : List UInt8) (h : s.length = 8) : (takeB s b).length = 8 := vadd_length _ _ h 8
end Sc
