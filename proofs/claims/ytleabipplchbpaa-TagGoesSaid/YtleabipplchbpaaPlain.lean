/-
  Plain SHA-256 over lists of Nat: no program in sight. 'fz', 'fl' force values, so that the kernel reckons a block in half a second.
-/
namespace Go.Proofs.Ytleabipplchbpaa
/-- Number i of l (0 beyond). -/
def at_ (l : List Nat) (i : Nat) : Nat := l.getD i 0
theorem at_lt {l : List Nat} {b : Nat} (h : ∀ x ∈ l, x < b) (hb : 0 < b) (i : Nat) : at_ l i < b := by
  unfold at_
  rcases Nat.lt_or_ge i l.length with hi | hi
  · simp [List.getD, List.getElem?_eq_getElem hi]; exact h _ (List.getElem_mem hi)
  · simp [List.getD, List.getElem?_eq_none hi]; exact hb
theorem at_set (l : List Nat) (i n j : Nat) (hi : i < l.length) : at_ (l.set i n) j = if j = i then n else at_ l j := by
  unfold at_
  rw [List.getD_eq_getElem?_getD, List.getD_eq_getElem?_getD, List.getElem?_set]
  by_cases h : i = j
  · subst h; simp [hi]
  · rw [if_neg h, if_neg (fun e => h e.symm)]
theorem at_append_left {l m : List Nat} {i : Nat} (h : i < l.length) : at_ (l ++ m) i = at_ l i := by
  unfold at_; rw [List.getD_eq_getElem?_getD, List.getD_eq_getElem?_getD, List.getElem?_append_left h]
theorem at_append_right {l m : List Nat} {i : Nat} (h : l.length ≤ i) : at_ (l ++ m) i = at_ m (i - l.length) := by
  unfold at_; rw [List.getD_eq_getElem?_getD, List.getD_eq_getElem?_getD, List.getElem?_append_right h]
theorem at_reverse {l : List Nat} {i : Nat} (h : i < l.length) : at_ l.reverse i = at_ l (l.length - 1 - i) := by
  unfold at_; rw [List.getD_eq_getElem?_getD, List.getD_eq_getElem?_getD, List.getElem?_reverse h]
theorem at_replicate (n i : Nat) : at_ (List.replicate n 0) i = 0 := by
  unfold at_; rw [List.getD_eq_getElem?_getD, List.getElem?_replicate]; split <;> rfl
theorem list_ext_at {l m : List Nat} (hl : l.length = m.length) (h : ∀ i, i < l.length → at_ l i = at_ m i) : l = m := by
  refine List.ext_getElem hl fun i h1 h2 => ?_
  have := h i h1
  simpa [at_, List.getD, List.getElem?_eq_getElem h1, List.getElem?_eq_getElem h2] using this

def rotr (x c : Nat) : Nat := x / 2 ^ c ||| (x * 2 ^ (32 - c) % 4294967296)
def tri (x a b c : Nat) : Nat := rotr x a ^^^ rotr x b ^^^ rotr x c
def trs (x a b c : Nat) : Nat := rotr x a ^^^ rotr x b ^^^ (x / 2 ^ c)
def add (a b : Nat) : Nat := (a + b) % 4294967296
def cho (e f g : Nat) : Nat := (e &&& f) ^^^ ((4294967295 - e) &&& g)
def maj (a b c : Nat) : Nat := ((a &&& b) ^^^ (a &&& c)) ^^^ (b &&& c)
theorem add_lt (a b : Nat) : add a b < 4294967296 := Nat.mod_lt _ (by decide)
theorem rotr_lt (x c : Nat) (hx : x < 4294967296) : rotr x c < 4294967296 := by
  unfold rotr
  exact Nat.or_lt_two_pow (n := 32) (Nat.lt_of_le_of_lt (Nat.div_le_self _ _) hx) (Nat.mod_lt _ (by decide))
theorem xor_lt {a b : Nat} (ha : a < 4294967296) (hb : b < 4294967296) : a ^^^ b < 4294967296 := Nat.xor_lt_two_pow (n := 32) ha hb
theorem and_lt {a b : Nat} (ha : a < 4294967296) : a &&& b < 4294967296 := Nat.lt_of_le_of_lt Nat.and_le_left ha
theorem tri_lt (x a b c : Nat) (hx : x < 4294967296) : tri x a b c < 4294967296 := xor_lt (xor_lt (rotr_lt _ _ hx) (rotr_lt _ _ hx)) (rotr_lt _ _ hx)
theorem trs_lt (x a b c : Nat) (hx : x < 4294967296) : trs x a b c < 4294967296 := xor_lt (xor_lt (rotr_lt _ _ hx) (rotr_lt _ _ hx)) (Nat.lt_of_le_of_lt (Nat.div_le_self _ _) hx)
theorem cho_lt (e f g : Nat) (he : e < 4294967296) : cho e f g < 4294967296 := xor_lt (and_lt he) (and_lt (by omega))
theorem maj_lt (a b c : Nat) (ha : a < 4294967296) (hb : b < 4294967296) : maj a b c < 4294967296 := xor_lt (xor_lt (and_lt ha) (and_lt ha)) (and_lt hb)

def fz {α : Type} (n : Nat) (k : Nat → α) : α := Nat.rec (k 0) (fun m _ => k m.succ) n
theorem fz_eq {α : Type} (n : Nat) (k : Nat → α) : fz n k = k n := by cases n <;> rfl
def fl {α : Type} : List Nat → (List Nat → α) → α
  | [], k => k []
  | x :: xs, k => fz x fun y => fl xs fun ys => k (y :: ys)
theorem fl_eq {α : Type} (l : List Nat) : ∀ k : List Nat → α, fl l k = k l := by
  induction l with
  | nil => intro k; rfl
  | cons x xs ih => intro k; simp only [fl, fz_eq, ih]

def ks : List Nat := [
0x428a2f98, 0x71374491, 0xb5c0fbcf, 0xe9b5dba5, 0x3956c25b, 0x59f111f1, 0x923f82a4, 0xab1c5ed5,
0xd807aa98, 0x12835b01, 0x243185be, 0x550c7dc3, 0x72be5d74, 0x80deb1fe, 0x9bdc06a7, 0xc19bf174,
0xe49b69c1, 0xefbe4786, 0x0fc19dc6, 0x240ca1cc, 0x2de92c6f, 0x4a7484aa, 0x5cb0a9dc, 0x76f988da,
0x983e5152, 0xa831c66d, 0xb00327c8, 0xbf597fc7, 0xc6e00bf3, 0xd5a79147, 0x06ca6351, 0x14292967,
0x27b70a85, 0x2e1b2138, 0x4d2c6dfc, 0x53380d13, 0x650a7354, 0x766a0abb, 0x81c2c92e, 0x92722c85,
0xa2bfe8a1, 0xa81a664b, 0xc24b8b70, 0xc76c51a3, 0xd192e819, 0xd6990624, 0xf40e3585, 0x106aa070,
0x19a4c116, 0x1e376c08, 0x2748774c, 0x34b0bcb5, 0x391c0cb3, 0x4ed8aa4a, 0x5b9cca4f, 0x682e6ff3,
0x748f82ee, 0x78a5636f, 0x84c87814, 0x8cc70208, 0x90befffa, 0xa4506ceb, 0xbef9a3f7, 0xc67178f2]
def start : List Nat := [0x6a09e667, 0xbb67ae85, 0x3c6ef372, 0xa54ff53a, 0x510e527f, 0x9b05688c, 0x1f83d9ab, 0x5be0cd19]
theorem ks_len : ks.length = 64 := rfl
theorem start_len : start.length = 8 := rfl
theorem ks_lt : ∀ x ∈ ks, x < 4294967296 := by decide
theorem start_lt : ∀ x ∈ start, x < 4294967296 := by decide

def wordTo (b : List Nat) (t : Nat) : Nat → Nat
  | 0 => 0
  | i + 1 => wordTo b t i * 256 + at_ b (4 * t + i)
def word (b : List Nat) (t : Nat) : Nat := wordTo b t 4
theorem wordTo_lt {b : List Nat} (hb : ∀ x ∈ b, x < 256) (t : Nat) : ∀ i, wordTo b t i < 256 ^ i
  | 0 => by simp [wordTo]
  | i + 1 => by
    have h1 := wordTo_lt hb t i
    have h2 := at_lt hb (by decide) (4 * t + i)
    rw [wordTo, Nat.pow_succ]
    omega
/-- the first k words, the last one first -/
def schedR (b : List Nat) : Nat → List Nat
  | 0 => []
  | k + 1 => fz (if k < 16 then word b k else add (add (add (trs (at_ (schedR b k) 1) 17 19 10) (at_ (schedR b k) 6)) (trs (at_ (schedR b k) 14) 7 18 3)) (at_ (schedR b k) 15)) fun x => x :: schedR b k
def sched (b : List Nat) (k : Nat) : List Nat := (schedR b k).reverse
/-- word k out of those ahead of it -/
def nextW (b : List Nat) (l : List Nat) (k : Nat) : Nat :=
  if k < 16 then word b k else add (add (add (trs (at_ l (k - 2)) 17 19 10) (at_ l (k - 7))) (trs (at_ l (k - 15)) 7 18 3)) (at_ l (k - 16))
theorem schedR_len (b : List Nat) : ∀ k, (schedR b k).length = k
  | 0 => rfl
  | k + 1 => by rw [schedR, fz_eq, List.length_cons, schedR_len b k]
theorem sched_len (b : List Nat) (k : Nat) : (sched b k).length = k := by rw [sched, List.length_reverse, schedR_len]
theorem sched_succ (b : List Nat) (k : Nat) : sched b (k + 1) = sched b k ++ [nextW b (sched b k) k] := by
  have hl := schedR_len b k
  have e : ∀ j, j < k → at_ (sched b k) (k - 1 - j) = at_ (schedR b k) j := by
    intro j hj
    rw [sched, at_reverse (by omega), hl]
    congr 1
    omega
  have hc : schedR b (k + 1) = (nextW b (sched b k) k) :: schedR b k := by
    rw [schedR, fz_eq]
    congr 1
    unfold nextW
    by_cases h : k < 16
    · rw [if_pos h, if_pos h]
    · rw [if_neg h, if_neg h, ← e 1 (by omega), ← e 6 (by omega), ← e 14 (by omega), ← e 15 (by omega)]
      rfl
  rw [sched, hc, List.reverse_cons, ← sched]
theorem nextW_lt {b : List Nat} (hb : ∀ x ∈ b, x < 256) (l : List Nat) (k : Nat) : nextW b l k < 4294967296 := by
  unfold nextW
  split
  · exact wordTo_lt hb k 4
  · exact add_lt _ _
theorem sched_lt {b : List Nat} (hb : ∀ x ∈ b, x < 256) : ∀ k, ∀ x ∈ sched b k, x < 4294967296
  | 0 => by intro x hx; simp [sched, schedR] at hx
  | k + 1 => by
    intro x hx
    rw [sched_succ] at hx
    rcases List.mem_append.1 hx with h | h
    · exact sched_lt hb k x h
    · rw [List.mem_singleton.1 h]; exact nextW_lt hb _ _
/-- The row of 64 words when the first k are there. -/
def wrow (b : List Nat) (k : Nat) : List Nat := sched b k ++ List.replicate (64 - k) 0
theorem wrow_len (b : List Nat) (k : Nat) (hk : k ≤ 64) : (wrow b k).length = 64 := by
  rw [wrow, List.length_append, sched_len, List.length_replicate]; omega
theorem wrow_zero (b : List Nat) : wrow b 0 = List.replicate 64 0 := rfl
theorem wrow_full (b : List Nat) : wrow b 64 = sched b 64 := by simp [wrow]
theorem wrow_at (b : List Nat) {k j : Nat} (hj : j < k) : at_ (wrow b k) j = at_ (sched b k) j := at_append_left (by rw [sched_len]; exact hj)
theorem wrow_at0 (b : List Nat) {k j : Nat} (hj : k ≤ j) : at_ (wrow b k) j = 0 := by
  rw [wrow, at_append_right (by rw [sched_len]; exact hj), at_replicate]
theorem wrow_set (b : List Nat) {k : Nat} (hk : k < 64) : (wrow b k).set k (nextW b (sched b k) k) = wrow b (k + 1) := by
  rw [wrow, wrow, sched_succ, List.set_append_right _ _ (by rw [sched_len]; exact Nat.le_refl _), sched_len, Nat.sub_self, show 64 - k = (64 - (k + 1)) + 1 from by omega, List.replicate_succ, List.set_cons_zero, List.append_assoc]
  rfl
theorem nextW_row (b : List Nat) {k : Nat} (hk : 16 ≤ k) :
    nextW b (sched b k) k = add (add (add (trs (at_ (wrow b k) (k - 2)) 17 19 10) (at_ (wrow b k) (k - 7))) (trs (at_ (wrow b k) (k - 15)) 7 18 3)) (at_ (wrow b k) (k - 16)) := by
  rw [nextW, if_neg (by omega), wrow_at b (by omega), wrow_at b (by omega), wrow_at b (by omega), wrow_at b (by omega)]

structure HS where
  a : Nat
  b : Nat
  c : Nat
  d : Nat
  e : Nat
  f : Nat
  g : Nat
  h : Nat
def round (s : HS) (k w : Nat) : HS :=
  fz (add (add (add (add s.h (tri s.e 6 11 25)) (cho s.e s.f s.g)) k) w) fun t1 =>
  fz (add t1 (add (tri s.a 2 13 22) (maj s.a s.b s.c))) fun a' =>
  fz (add s.d t1) fun e' =>
  ⟨a', s.a, s.b, s.c, e', s.e, s.f, s.g⟩
def rounds (s : HS) (w : List Nat) : Nat → HS
  | 0 => s
  | k + 1 => round (rounds s w k) (at_ ks k) (at_ w k)
def HS.of (l : List Nat) : HS := ⟨at_ l 0, at_ l 1, at_ l 2, at_ l 3, at_ l 4, at_ l 5, at_ l 6, at_ l 7⟩
def HS.to (s : HS) : List Nat := [s.a, s.b, s.c, s.d, s.e, s.f, s.g, s.h]
def HS.small (s : HS) : Prop := s.a < 4294967296 ∧ s.b < 4294967296 ∧ s.c < 4294967296 ∧ s.d < 4294967296 ∧ s.e < 4294967296 ∧ s.f < 4294967296 ∧ s.g < 4294967296 ∧ s.h < 4294967296
def t1_ (s : HS) (k w : Nat) : Nat := add (add (add (add s.h (tri s.e 6 11 25)) (cho s.e s.f s.g)) k) w
def t2_ (s : HS) : Nat := add (tri s.a 2 13 22) (maj s.a s.b s.c)
theorem round_eq (s : HS) (k w : Nat) : round s k w = ⟨add (t1_ s k w) (t2_ s), s.a, s.b, s.c, add s.d (t1_ s k w), s.e, s.f, s.g⟩ := by simp only [round, fz_eq]; rfl
theorem round_small {s : HS} (h : s.small) (k w : Nat) : (round s k w).small := by
  rw [round_eq]
  exact ⟨add_lt _ _, h.1, h.2.1, h.2.2.1, add_lt _ _, h.2.2.2.2.1, h.2.2.2.2.2.1, h.2.2.2.2.2.2.1⟩
theorem rounds_small {s : HS} (h : s.small) (w : List Nat) : ∀ k, (rounds s w k).small
  | 0 => h
  | k + 1 => round_small (rounds_small h w k) _ _
theorem of_small {l : List Nat} (h : ∀ x ∈ l, x < 4294967296) : (HS.of l).small :=
  ⟨at_lt h (by decide) _, at_lt h (by decide) _, at_lt h (by decide) _, at_lt h (by decide) _, at_lt h (by decide) _, at_lt h (by decide) _, at_lt h (by decide) _, at_lt h (by decide) _⟩
theorem of_to (s : HS) : HS.of s.to = s := rfl
theorem to_len (s : HS) : s.to.length = 8 := rfl
theorem to_of {l : List Nat} (h : l.length = 8) : (HS.of l).to = l := by
  match l, h with
  | [a, b, c, d, e, f, g, i], _ => rfl
theorem to_lt {s : HS} (h : s.small) : ∀ x ∈ s.to, x < 4294967296 := by
  obtain ⟨h1, h2, h3, h4, h5, h6, h7, h8⟩ := h
  simp only [HS.to, List.mem_cons, List.mem_nil_iff, or_false]
  rintro x (rfl | rfl | rfl | rfl | rfl | rfl | rfl | rfl) <;> assumption
/-- the sum, number by number, of the first j -/
def addTo (s h : List Nat) (j : Nat) : List Nat := (List.zipWith add s h).take j ++ s.drop j
def turn (h : List Nat) (b : List Nat) : List Nat :=
  fl (List.zipWith add (HS.to (rounds (HS.of h) (sched b 64) 64)) h) id
theorem turn_eq (h b : List Nat) : turn h b = List.zipWith add (HS.to (rounds (HS.of h) (sched b 64) 64)) h := by rw [turn, fl_eq]; rfl
theorem turn_len {h : List Nat} (hl : h.length = 8) (b : List Nat) : (turn h b).length = 8 := by
  rw [turn_eq, List.length_zipWith, to_len, hl]; rfl
theorem turn_lt (h b : List Nat) : ∀ x ∈ turn h b, x < 4294967296 := by
  rw [turn_eq]
  intro x hx
  obtain ⟨i, hi, rfl⟩ := List.mem_iff_getElem.1 hx
  rw [List.getElem_zipWith]
  exact add_lt _ _
theorem addTo_zero (s h : List Nat) : addTo s h 0 = s := by simp [addTo]
theorem addTo_len {s h : List Nat} (hs : s.length = 8) (hh : h.length = 8) (j : Nat) (hj : j ≤ 8) : (addTo s h j).length = 8 := by
  simp [addTo, hs, hh]; omega
theorem addTo_full {s h : List Nat} (hs : s.length = 8) (hh : h.length = 8) : addTo s h 8 = List.zipWith add s h := by
  rw [addTo, List.take_of_length_le (by simp [hs, hh]), List.drop_of_length_le (by omega), List.append_nil]
theorem addTo_at {s h : List Nat} (hs : s.length = 8) (hh : h.length = 8) {j : Nat} (hj : j < 8) : at_ (addTo s h j) j = at_ s j := by
  have hl : ((List.zipWith add s h).take j).length = j := by simp [hs, hh]; omega
  rw [addTo, at_append_right (by omega), hl, Nat.sub_self]
  unfold at_
  rw [List.getD_eq_getElem?_getD, List.getD_eq_getElem?_getD, List.getElem?_drop]
  rfl
theorem addTo_set {s h : List Nat} (hs : s.length = 8) (hh : h.length = 8) {j : Nat} (hj : j < 8) : (addTo s h j).set j (add (at_ s j) (at_ h j)) = addTo s h (j + 1) := by
  have hl : ((List.zipWith add s h).take j).length = j := by simp [hs, hh]; omega
  have hz : j < (List.zipWith add s h).length := by simp [hs, hh]; omega
  rw [addTo, addTo, List.set_append_right _ _ (by omega), hl, Nat.sub_self, List.drop_eq_getElem_cons (by omega), List.set_cons_zero, List.take_succ_eq_append_getElem hz, List.append_assoc, List.getElem_zipWith]
  simp [at_, List.getD, hs, hh, hj]

def pad (n : Nat) : List Nat := 0x80 :: List.replicate ((119 - n % 64) % 64) 0 ++ (List.range 8).map fun i => (n % 2 ^ 61 * 8) / 2 ^ (56 - 8 * i) % 256
def blocks (m : List Nat) : Nat → List Nat
  | 0 => start
  | k + 1 => turn (blocks m k) ((m.drop (64 * k)).take 64)
theorem blocks_len (m : List Nat) : ∀ k, (blocks m k).length = 8
  | 0 => rfl
  | k + 1 => turn_len (blocks_len m k) _
theorem blocks_lt (m : List Nat) : ∀ k, ∀ x ∈ blocks m k, x < 4294967296
  | 0 => start_lt
  | _ + 1 => turn_lt _ _
def byteAt (h : List Nat) (i : Nat) : Nat := at_ h (i / 4) / 2 ^ (24 - 8 * (i % 4)) % 256
def bytesOf (h : List Nat) : List Nat := (List.range 32).map (byteAt h)
theorem bytesOf_len (h : List Nat) : (bytesOf h).length = 32 := by simp [bytesOf]
theorem bytesOf_lt (h : List Nat) : ∀ x ∈ bytesOf h, x < 256 := by
  intro x hx
  obtain ⟨i, _, rfl⟩ := List.mem_map.1 hx
  exact Nat.mod_lt _ (by decide)
/-- A row of N numbers whose first k are there. -/
def frow (f : Nat → Nat) (N k : Nat) : List Nat := (List.range k).map f ++ List.replicate (N - k) 0
theorem frow_zero (f : Nat → Nat) (N : Nat) : frow f N 0 = List.replicate N 0 := rfl
theorem frow_full (f : Nat → Nat) (N : Nat) : frow f N N = (List.range N).map f := by simp [frow]
theorem frow_len (f : Nat → Nat) {N k : Nat} (hk : k ≤ N) : (frow f N k).length = N := by simp [frow]; omega
theorem frow_set (f : Nat → Nat) {N k : Nat} (hk : k < N) : (frow f N k).set k (f k) = frow f N (k + 1) := by
  rw [frow, frow, List.set_append_right _ _ (by simp), List.length_map, List.length_range, Nat.sub_self, show N - k = (N - (k + 1)) + 1 from by omega, List.replicate_succ, List.set_cons_zero, List.range_succ, List.map_append, List.append_assoc]
  rfl
/-- THE HASH of a message. -/
def hash (m : List Nat) : List Nat := fl (m ++ pad m.length) fun p => fl (bytesOf (blocks p (p.length / 64))) id
theorem pad_len (n : Nat) : (pad n).length = 9 + (119 - n % 64) % 64 := by simp [pad]; omega
theorem pad_whole (n : Nat) : (n + (pad n).length) % 64 = 0 := by rw [pad_len]; omega
theorem pad_lt (n : Nat) : ∀ x ∈ pad n, x < 256 := by
  intro x hx
  simp only [pad, List.cons_append, List.mem_cons, List.mem_append, List.mem_map] at hx
  rcases hx with rfl | hx | ⟨i, _, rfl⟩
  · decide
  · rw [(List.mem_replicate.1 hx).2]; decide
  · exact Nat.mod_lt _ (by decide)
theorem hash_eq (m : List Nat) : hash m = bytesOf (blocks (m ++ pad m.length) ((m ++ pad m.length).length / 64)) := by rw [hash, fl_eq, fl_eq]; rfl
end Go.Proofs.Ytleabipplchbpaa
