/- SHA-256 as a plain function on lists of numbers: what both texts of the digest compute. No program here. -/
import Derived.Test.YtjamakapkpkfeaaDoorBase
namespace Go.Proofs.YtjamakapkpkfeaaDoor.Sha

/-- x rotated right by n. -/
def rotr (x n : Nat) : Nat := x / 2 ^ n ||| x * 2 ^ (32 - n) % 4294967296
def ch (e f g : Nat) : Nat := (e &&& f) ^^^ ((4294967295 - e) &&& g)
def maj (a b c : Nat) : Nat := (a &&& b) ^^^ (a &&& c) ^^^ (b &&& c)
def sg0 (x : Nat) : Nat := rotr x 7 ^^^ rotr x 18 ^^^ x / 8
def sg1 (x : Nat) : Nat := rotr x 17 ^^^ rotr x 19 ^^^ x / 1024
def bg1 (e : Nat) : Nat := rotr e 6 ^^^ rotr e 11 ^^^ rotr e 25
def bg0 (a : Nat) : Nat := rotr a 2 ^^^ rotr a 13 ^^^ rotr a 22
def plus (a b : Nat) : Nat := (a + b) % 4294967296
def at_ (l : List Nat) (i : Nat) : Nat := l.getD i 0

/-- The word with the index i of a block of bytes. -/
def word (b : List Nat) (i : Nat) : Nat :=
  ((at_ b (4 * i) * 16777216 % 4294967296 ||| at_ b (4 * i + 1) * 65536 % 4294967296) ||| at_ b (4 * i + 2) * 256 % 4294967296) ||| at_ b (4 * i + 3)
/-- The next word of a schedule. -/
def next (w : List Nat) (i : Nat) : Nat := (at_ w (i - 16) + sg0 (at_ w (i - 15)) + at_ w (i - 7) + sg1 (at_ w (i - 2))) % 4294967296
def first (b : List Nat) : Nat → List Nat
  | 0 => []
  | n + 1 => first b n ++ [word b n]
def more (w : List Nat) : Nat → List Nat
  | 0 => w
  | n + 1 => more w n ++ [next (more w n) (16 + n)]
def sched (b : List Nat) : List Nat := more (first b 16) 48

def consts : List Nat := [
  1116352408, 1899447441, 3049323471, 3921009573, 961987163, 1508970993, 2453635748, 2870763221, 3624381080, 310598401, 607225278, 1426881987, 1925078388, 2162078206, 2614888103, 3248222580,
  3835390401, 4022224774, 264347078, 604807628, 770255983, 1249150122, 1555081692, 1996064986, 2554220882, 2821834349, 2952996808, 3210313671, 3336571891, 3584528711, 113926993, 338241895,
  666307205, 773529912, 1294757372, 1396182291, 1695183700, 1986661051, 2177026350, 2456956037, 2730485921, 2820302411, 3259730800, 3345764771, 3516065817, 3600352804, 4094571909, 275423344,
  430227734, 506948616, 659060556, 883997877, 958139571, 1322822218, 1537002063, 1747873779, 1955562222, 2024104815, 2227730452, 2361852424, 2428436474, 2756734187, 3204031479, 3329325298]

def t1 (v : List Nat) (k w : Nat) : Nat := plus (plus (plus (plus (at_ v 7) (bg1 (at_ v 4))) (ch (at_ v 4) (at_ v 5) (at_ v 6))) k) w
def t2 (v : List Nat) : Nat := plus (bg0 (at_ v 0)) (maj (at_ v 0) (at_ v 1) (at_ v 2))
def round (v : List Nat) (k w : Nat) : List Nat :=
  [plus (t1 v k w) (t2 v), at_ v 0, at_ v 1, at_ v 2, plus (at_ v 3) (t1 v k w), at_ v 4, at_ v 5, at_ v 6]
def rounds (h w : List Nat) : Nat → List Nat
  | 0 => h
  | n + 1 => round (rounds h w n) (at_ consts n) (at_ w n)
def sums (h v : List Nat) : Nat → List Nat
  | 0 => []
  | n + 1 => sums h v n ++ [plus (at_ h n) (at_ v n)]
def block (h b : List Nat) : List Nat := sums h (rounds h (sched b) 64) 8

def start : List Nat := [1779033703, 3144134277, 1013904242, 2773480762, 1359893119, 2600822924, 528734635, 1541459225]
/-- How many zero bytes are added to n bytes. -/
def zeros (n : Nat) : Nat := (119 - n % 64) % 64
def lenByte (n i : Nat) : Nat := 8 * n / 2 ^ (8 * i) % 256
def tail (n : Nat) : List Nat := [lenByte n 7, lenByte n 6, lenByte n 5, lenByte n 4, lenByte n 3, lenByte n 2, lenByte n 1, lenByte n 0]
def padded (s : List Nat) : List Nat := s ++ [128] ++ List.replicate (zeros (s.length)) 0 ++ tail s.length
def chunks (h b : List Nat) : Nat → List Nat
  | 0 => h
  | n + 1 => block (chunks h b n) ((b.drop (64 * n)).take 64)
def bytesOf (x : Nat) : List Nat := [x / 16777216 % 256, x / 65536 % 256, x / 256 % 256, x % 256]
def out (h : List Nat) : Nat → List Nat
  | 0 => []
  | n + 1 => out h n ++ bytesOf (at_ h n)
def sum (s : List Nat) : List Nat := out (chunks start (padded s) ((padded s).length / 64)) 8

/-- Of strings. -/
def nats (s : ByteArray) : List Nat := s.data.toList.map UInt8.toNat
def str (l : List Nat) : ByteArray := ⟨(l.map UInt8.ofNat).toArray⟩
def sha (s : ByteArray) : ByteArray := str (sum (nats s))

theorem consts_length : consts.length = 64 := rfl
theorem first_zero (b : List Nat) : first b 0 = [] := rfl
theorem first_succ (b : List Nat) (n : Nat) : first b (n + 1) = first b n ++ [word b n] := rfl
theorem more_zero (w : List Nat) : more w 0 = w := rfl
theorem more_succ (w : List Nat) (n : Nat) : more w (n + 1) = more w n ++ [next (more w n) (16 + n)] := rfl
theorem sched_eq (b : List Nat) : sched b = more (first b 16) 48 := rfl
theorem rounds_zero (h w : List Nat) : rounds h w 0 = h := rfl
theorem rounds_succ (h w : List Nat) (n : Nat) : rounds h w (n + 1) = round (rounds h w n) (at_ consts n) (at_ w n) := rfl
theorem sums_zero (h v : List Nat) : sums h v 0 = [] := rfl
theorem sums_succ (h v : List Nat) (n : Nat) : sums h v (n + 1) = sums h v n ++ [plus (at_ h n) (at_ v n)] := rfl
theorem block_eq (h b : List Nat) : block h b = sums h (rounds h (sched b) 64) 8 := rfl
theorem chunks_zero (h b : List Nat) : chunks h b 0 = h := rfl
theorem chunks_succ (h b : List Nat) (n : Nat) : chunks h b (n + 1) = block (chunks h b n) ((b.drop (64 * n)).take 64) := rfl
theorem out_zero (h : List Nat) : out h 0 = [] := rfl
theorem out_succ (h : List Nat) (n : Nat) : out h (n + 1) = out h n ++ bytesOf (at_ h n) := rfl
theorem sum_eq (s : List Nat) : sum s = out (chunks start (padded s) ((padded s).length / 64)) 8 := rfl
theorem sha_eq (s : ByteArray) : sha s = str (sum (nats s)) := rfl
attribute [irreducible] first more sched rounds sums block chunks out sum sha consts
end Go.Proofs.YtjamakapkpkfeaaDoor.Sha
