/-
  Plain mathematics of SHA-256: words of 32 bits, the message schedule, a block's compression, padding, the hash of a message. No program here. No conditions.
-/
namespace Go.Proofs.YtbgieephehfgpabDoor
namespace Sha
abbrev W := BitVec 32
def wxor (a b : W) : W := a ^^^ b
def wand (a b : W) : W := a &&& b
def wor (a b : W) : W := a ||| b
def wadd (a b : W) : W := a + b
def wnot (a : W) : W := ~~~a
def shr (x : W) (n : Nat) : W := x >>> n
def rotr (x : W) (n : Nat) : W := (x >>> n) ||| (x <<< (32 - n))
def mix (x : W) (i j k : Nat) : W := wxor (wxor (rotr x i) (rotr x j)) (rotr x k)
/-- the word that four bytes make, from the word so far -/
def push8 (x : W) (b : Nat) : W := (x <<< 8) ||| BitVec.ofNat 32 b
/-- word t of a block, after j of its bytes -/
def word4 (l : List UInt8) (t : Nat) : Nat → W
  | 0 => 0#32
  | j + 1 => push8 (word4 l t j) (l.getD (4 * t + j) 0).toNat
def s0 (x : W) : W := wxor (wxor (rotr x 7) (rotr x 18)) (shr x 3)
def s1 (x : W) : W := wxor (wxor (rotr x 17) (rotr x 19)) (shr x 10)
/-- the word behind those of the schedule so far -/
def nextW (p : List W) (t : Nat) : W := wadd (wadd (wadd (p.getD (t - 16) 0#32) (s0 (p.getD (t - 15) 0#32))) (p.getD (t - 7) 0#32)) (s1 (p.getD (t - 2) 0#32))
/-- the first words of the schedule of a block -/
def sched (l : List UInt8) : Nat → List W
  | 0 => []
  | t + 1 => sched l t ++ [if t < 16 then word4 l t 4 else nextW (sched l t) t]
theorem sched_len (l : List UInt8) (t : Nat) : (sched l t).length = t := by
  induction t with
  | zero => rfl
  | succ t ih => simp [sched, ih]
/-- the round constants -/
def konsN : List Nat := [1116352408, 1899447441, 3049323471, 3921009573, 961987163, 1508970993, 2453635748, 2870763221, 3624381080, 310598401, 607225278, 1426881987, 1925078388, 2162078206, 2614888103, 3248222580, 3835390401, 4022224774, 264347078, 604807628, 770255983, 1249150122, 1555081692, 1996064986, 2554220882, 2821834349, 2952996808, 3210313671, 3336571891, 3584528711, 113926993, 338241895, 666307205, 773529912, 1294757372, 1396182291, 1695183700, 1986661051, 2177026350, 2456956037, 2730485921, 2820302411, 3259730800, 3345764771, 3516065817, 3600352804, 4094571909, 275423344, 430227734, 506948616, 659060556, 883997877, 958139571, 1322822218, 1537002063, 1747873779, 1955562222, 2024104815, 2227730452, 2361852424, 2428436474, 2756734187, 3204031479, 3329325298]
def kon (t : Nat) : W := BitVec.ofNat 32 (konsN.getD t 0)
/-- the hash value: eight words -/
structure S8 where
  a : W
  b : W
  c : W
  d : W
  e : W
  f : W
  g : W
  h : W
def ch (e f g : W) : W := wxor (wand e f) (wand (wnot e) g)
def maj (a b c : W) : W := wxor (wxor (wand a b) (wand a c)) (wand b c)
def xOf (k w : W) (s : S8) : W := wadd (wadd (wadd (wadd s.h (mix s.e 6 11 25)) (ch s.e s.f s.g)) k) w
def yOf (s : S8) : W := wadd (mix s.a 2 13 22) (maj s.a s.b s.c)
def rnd (k w : W) (s : S8) : S8 := ⟨wadd (xOf k w s) (yOf s), s.a, s.b, s.c, wadd s.d (xOf k w s), s.e, s.f, s.g⟩
/-- the first rounds of a block -/
def rounds (ws : List W) (s : S8) : Nat → S8
  | 0 => s
  | t + 1 => rnd (kon t) (ws.getD t 0#32) (rounds ws s t)
def add8 (s r : S8) : S8 := ⟨wadd s.a r.a, wadd s.b r.b, wadd s.c r.c, wadd s.d r.d, wadd s.e r.e, wadd s.f r.f, wadd s.g r.g, wadd s.h r.h⟩
/-- a block's compression -/
def comp (s : S8) (l : List UInt8) : S8 := add8 s (rounds (sched l 64) s 64)
/-- the hash value at the beginning -/
def s8init : S8 := ⟨0x6a09e667#32, 0xbb67ae85#32, 0x3c6ef372#32, 0xa54ff53a#32, 0x510e527f#32, 0x9b05688c#32, 0x1f83d9ab#32, 0x5be0cd19#32⟩
/-- the hash value after the first j blocks of a message -/
def hb (m : List UInt8) : Nat → S8
  | 0 => s8init
  | j + 1 => comp (hb m j) ((m.drop (64 * j)).take 64)
/-- a longer message has the same first blocks -/
theorem hb_append (m r : List UInt8) (j : Nat) (h : 64 * j ≤ m.length) : hb (m ++ r) j = hb m j := by
  induction j with
  | zero => rfl
  | succ j ih =>
    rw [hb, hb, ih (by omega)]
    congr 1
    rw [List.drop_append_of_le_length (by omega), List.take_append_of_le_length (by rw [List.length_drop]; omega)]
end Sha
end Go.Proofs.YtbgieephehfgpabDoor
