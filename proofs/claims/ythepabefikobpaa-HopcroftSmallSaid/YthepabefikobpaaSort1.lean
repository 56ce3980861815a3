/- Plain: swaps within a part of a sequence, rotation, and merging of sorted parts. No condition. -/
namespace Go.Sp
def swp (f : Nat → Int) (i j : Nat) : Nat → Int := fun x => if x = j then f i else if x = i then f j else f x
/-- g comes of f by swaps of places from a on, below b. -/
inductive Sw (a b : Nat) : (Nat → Int) → (Nat → Int) → Prop
  | refl (f : Nat → Int) : Sw a b f f
  | step {f g : Nat → Int} (i j : Nat) (h : Sw a b f g) (h1 : a ≤ i) (h2 : i < b) (h3 : a ≤ j) (h4 : j < b) : Sw a b f (swp g i j)
theorem Sw.one {a b : Nat} (f : Nat → Int) {i j : Nat} (h1 : a ≤ i) (h2 : i < b) (h3 : a ≤ j) (h4 : j < b) : Sw a b f (swp f i j) := .step i j (.refl f) h1 h2 h3 h4
theorem Sw.trans {a b : Nat} {f g h : Nat → Int} (h1 : Sw a b f g) (h2 : Sw a b g h) : Sw a b f h := by
  induction h2 with
  | refl => exact h1
  | step i j _ a1 a2 a3 a4 ih => exact .step i j ih a1 a2 a3 a4
theorem Sw.mono {a b a' b' : Nat} {f g : Nat → Int} (h : Sw a b f g) (h1 : a' ≤ a) (h2 : b ≤ b') : Sw a' b' f g := by
  induction h with
  | refl => exact .refl _
  | step i j _ a1 a2 a3 a4 ih => exact .step i j ih (by omega) (by omega) (by omega) (by omega)
theorem Sw.out {a b : Nat} {f g : Nat → Int} (h : Sw a b f g) {x : Nat} (hx : x < a ∨ b ≤ x) : g x = f x := by
  induction h with
  | refl => rfl
  | step i j _ a1 a2 a3 a4 ih => simp only [swp]; rw [if_neg (by omega), if_neg (by omega)]; exact ih
theorem Sw.all {a b : Nat} {f g : Nat → Int} (h : Sw a b f g) {p : Int → Prop} (hp : ∀ x, a ≤ x → x < b → p (f x)) : ∀ x, a ≤ x → x < b → p (g x) := by
  induction h with
  | refl => exact hp
  | step i j _ a1 a2 a3 a4 ih =>
    intro x h1 h2
    simp only [swp]
    split
    · exact ih _ a1 a2
    · split
      · exact ih _ a3 a4
      · exact ih _ h1 h2
theorem Sw.allN {a b n : Nat} {f g : Nat → Int} (h : Sw a b f g) (hb : b ≤ n) {p : Int → Prop} (hp : ∀ x, x < n → p (f x)) : ∀ x, x < n → p (g x) := by
  intro x hx
  by_cases h1 : a ≤ x ∧ x < b
  · exact h.all (p := p) (fun y _ h3 => hp y (by omega)) x h1.1 h1.2
  · rw [h.out (by omega)]; exact hp x hx
theorem Sw.inj {a b n : Nat} {f g : Nat → Int} (h : Sw a b f g) (hb : b ≤ n) (hi : ∀ x y, x < n → y < n → f x = f y → x = y) : ∀ x y, x < n → y < n → g x = g y → x = y := by
  induction h with
  | refl => exact hi
  | step i j _ a1 a2 a3 a4 ih =>
    intro x y hx hy he
    simp only [swp] at he
    have := ih i j (by omega) (by omega)
    have := ih j i (by omega) (by omega)
    have := ih i x (by omega) hx
    have := ih i y (by omega) hy
    have := ih j x (by omega) hx
    have := ih j y (by omega) hy
    have := ih x i hx (by omega)
    have := ih y i hy (by omega)
    have := ih x j hx (by omega)
    have := ih y j hy (by omega)
    have := ih x y hx hy
    split at he <;> split at he <;> (try split at he) <;> (try split at he) <;> omega
/-- Sorted by a key, from a on, below b. -/
def Srt (κ : Int → Int) (f : Nat → Int) (a b : Nat) : Prop := ∀ i j, a ≤ i → i ≤ j → j < b → κ (f i) ≤ κ (f j)
theorem Srt.congr {κ : Int → Int} {f g : Nat → Int} {a b : Nat} (h : Srt κ f a b) (he : ∀ x, a ≤ x → x < b → g x = f x) : Srt κ g a b := by
  intro i j h1 h2 h3
  rw [he i (by omega) (by omega), he j (by omega) h3]
  exact h i j h1 h2 h3
theorem Srt.sub {κ : Int → Int} {f : Nat → Int} {a b a' b' : Nat} (h : Srt κ f a b) (h1 : a ≤ a') (h2 : b' ≤ b) : Srt κ f a' b' := fun i j h3 h4 h5 => h i j (by omega) h4 (by omega)
/-- The parts [a, m) and [m, b) change places. -/
def rot (f : Nat → Int) (a m b : Nat) : Nat → Int := fun x => if a ≤ x ∧ x < a + (b - m) then f (x + (m - a)) else if a + (b - m) ≤ x ∧ x < b then f (x - (b - m)) else f x
/-- So many places from i on change with those from j on. -/
def swr (f : Nat → Int) (i j n : Nat) : Nat → Int := fun x => if i ≤ x ∧ x < i + n then f (x - i + j) else if j ≤ x ∧ x < j + n then f (x - j + i) else f x
theorem swr_zero (f : Nat → Int) (i j : Nat) : swr f i j 0 = f := by
  funext x; simp only [swr]; rw [if_neg (by omega), if_neg (by omega)]
theorem swr_succ (f : Nat → Int) {i j n : Nat} (h : i + n < j) : swr f i j (n + 1) = swp (swr f i j n) (i + n) (j + n) := by
  funext x
  simp only [swr, swp]
  by_cases h1 : x = j + n
  · subst h1
    rw [if_neg (by omega), if_pos (by omega), if_pos rfl, if_neg (by omega), if_neg (by omega)]
    exact congrArg f (by omega)
  · by_cases h2 : x = i + n
    · subst h2
      rw [if_pos (by omega), if_neg h1, if_pos rfl, if_neg (by omega), if_neg (by omega)]
      exact congrArg f (by omega)
    · rw [if_neg h1, if_neg h2]
      by_cases h3 : i ≤ x ∧ x < i + n
      · rw [if_pos (by omega), if_pos h3]
      · rw [if_neg (by omega), if_neg h3]
        by_cases h4 : j ≤ x ∧ x < j + n
        · rw [if_pos (by omega), if_pos h4]
        · rw [if_neg (by omega), if_neg h4]
theorem Sw.swr {a b : Nat} (f : Nat → Int) {i j : Nat} (h1 : a ≤ i) : ∀ n, i + n ≤ j → j + n ≤ b → Sw a b f (swr f i j n)
  | 0, _, _ => by rw [swr_zero]; exact .refl f
  | n + 1, h2, h3 => by
    rw [swr_succ f (by omega)]
    exact .step _ _ (Sw.swr f h1 n (by omega) (by omega)) (by omega) (by omega) (by omega) (by omega)
theorem rot_gt (f : Nat → Int) {m i j : Nat} (h1 : i ≤ m) (h2 : j < i) : rot (swr f (m - i) m j) (m - i + j) m (m + j) = rot f (m - i) m (m + j) := by
  funext x
  simp only [rot, swr]
  rcases Nat.lt_or_ge x (m - i) with a | a
  · repeat rw [if_neg (by omega)]
  rcases Nat.lt_or_ge x (m - i + j) with c | c
  · rw [if_neg (by omega), if_neg (by omega), if_pos (by omega), if_pos (by omega)]
    exact congrArg f (by omega)
  rcases Nat.lt_or_ge x (m + j) with e | e
  · rcases Nat.lt_or_ge x (m - i + j + j) with g | g
    · rw [if_pos (by omega), if_neg (by omega), if_pos (by omega), if_neg (by omega), if_pos (by omega)]
      exact congrArg f (by omega)
    · rw [if_neg (by omega), if_pos (by omega), if_neg (by omega), if_neg (by omega), if_neg (by omega), if_pos (by omega)]
  · repeat rw [if_neg (by omega)]
theorem rot_lt (f : Nat → Int) {m i j : Nat} (h1 : i ≤ m) (h2 : i < j) : rot (swr f (m - i) (m + j - i) i) (m - i) m (m + j - i) = rot f (m - i) m (m + j) := by
  funext x
  simp only [rot, swr]
  rcases Nat.lt_or_ge x (m - i) with a | a
  · repeat rw [if_neg (by omega)]
  rcases Nat.lt_or_ge x (m - i + (j - i)) with c | c
  · rw [if_pos (by omega), if_neg (by omega), if_neg (by omega), if_pos (by omega)]
  rcases Nat.lt_or_ge x (m + j - i) with e | e
  · rw [if_neg (by omega), if_pos (by omega), if_pos (by omega)]
    rw [if_pos (by omega)]
    exact congrArg f (by omega)
  rcases Nat.lt_or_ge x (m + j) with g | g
  · rw [if_neg (by omega), if_neg (by omega), if_neg (by omega), if_pos (by omega)]
    rw [if_neg (by omega), if_pos (by omega)]
    exact congrArg f (by omega)
  · repeat rw [if_neg (by omega)]
theorem rot_eq (f : Nat → Int) {m i : Nat} (h1 : i ≤ m) : swr f (m - i) m i = rot f (m - i) m (m + i) := by
  funext x
  simp only [rot, swr]
  rcases Nat.lt_or_ge x (m - i) with a | a
  · repeat rw [if_neg (by omega)]
  rcases Nat.lt_or_ge x m with c | c
  · rw [if_pos (by omega), if_pos (by omega)]
    exact congrArg f (by omega)
  rcases Nat.lt_or_ge x (m + i) with e | e
  · rw [if_neg (by omega), if_pos (by omega), if_neg (by omega), if_pos (by omega)]
    exact congrArg f (by omega)
  · repeat rw [if_neg (by omega)]
/-- Of parts that are sorted: what the search finds, and then the rotation, leave two parts each of which is made of two that are sorted, and the first one has nothing greater than what the second one has. -/
theorem halves {κ : Int → Int} {f : Nat → Int} {a m b mid st : Nat} (h1 : Srt κ f a m) (h2 : Srt κ f m b) (ham : a < m) (hmb : m < b) (hmid : a ≤ mid ∧ mid < b) (hst : a ≤ st ∧ st ≤ mid ∧ st ≤ m) (hend : m ≤ mid + m - st ∧ mid + m - st ≤ b)
    (hlo : st = a ∨ mid + m - st = b ∨ κ (f (st - 1)) ≤ κ (f (mid + m - st))) (hhi : st = mid ∨ st = m ∨ κ (f (mid + m - st - 1)) ≤ κ (f st)) :
    let g := rot f st m (mid + m - st)
    Srt κ g a st ∧ Srt κ g st mid ∧ Srt κ g mid (mid + m - st) ∧ Srt κ g (mid + m - st) b ∧ (∀ x y, a ≤ x → x < mid → mid ≤ y → y < b → κ (g x) ≤ κ (g y)) := by
  intro g
  have g1 : ∀ x, x < st → g x = f x := fun x hx => by simp only [g, rot]; rw [if_neg (by omega), if_neg (by omega)]
  have g2 : ∀ x, st ≤ x → x < mid → g x = f (x + (m - st)) := fun x h3 h4 => by simp only [g, rot]; rw [if_pos (by omega)]
  have g3 : ∀ x, mid ≤ x → x < mid + m - st → g x = f (x - (mid - st)) := fun x h3 h4 => by
    simp only [g, rot]; rw [if_neg (by omega), if_pos (by omega)]; exact congrArg f (by omega)
  have g4 : ∀ x, mid + m - st ≤ x → g x = f x := fun x hx => by simp only [g, rot]; rw [if_neg (by omega), if_neg (by omega)]
  refine ⟨?_, ?_, ?_, ?_, ?_⟩
  · intro i j h3 h4 h5
    rw [g1 i (by omega), g1 j h5]
    exact h1 i j h3 h4 (by omega)
  · intro i j h3 h4 h5
    rw [g2 i h3 (by omega), g2 j (by omega) h5]
    exact h2 _ _ (by omega) (by omega) (by omega)
  · intro i j h3 h4 h5
    rw [g3 i h3 (by omega), g3 j (by omega) h5]
    exact h1 _ _ (by omega) (by omega) (by omega)
  · intro i j h3 h4 h5
    rw [g4 i h3, g4 j (by omega)]
    exact h2 _ _ (by omega) (by omega) (by omega)
  · intro x y h3 h4 h5 h6
    rcases Nat.lt_or_ge x st with hx | hx
    · rw [g1 x hx]
      rcases Nat.lt_or_ge y (mid + m - st) with hy | hy
      · rw [g3 y h5 hy]
        exact h1 _ _ (by omega) (by omega) (by omega)
      · rw [g4 y hy]
        have q1 : κ (f x) ≤ κ (f (st - 1)) := h1 _ _ (by omega) (by omega) (by omega)
        have q2 : κ (f (mid + m - st)) ≤ κ (f y) := h2 _ _ (by omega) (by omega) (by omega)
        omega
    · rw [g2 x hx h4]
      rcases Nat.lt_or_ge y (mid + m - st) with hy | hy
      · rw [g3 y h5 hy]
        have q1 : κ (f (x + (m - st))) ≤ κ (f (mid + m - st - 1)) := h2 _ _ (by omega) (by omega) (by omega)
        have q2 : κ (f st) ≤ κ (f (y - (mid - st))) := h1 _ _ (by omega) (by omega) (by omega)
        omega
      · rw [g4 y hy]
        exact h2 _ _ (by omega) (by omega) (by omega)
/-- Two sorted parts, the first one of which has nothing greater than what the second one has. -/
theorem Srt.glue {κ : Int → Int} {f : Nat → Int} {a m b : Nat} (h1 : Srt κ f a m) (h2 : Srt κ f m b) (h3 : ∀ x y, a ≤ x → x < m → m ≤ y → y < b → κ (f x) ≤ κ (f y)) : Srt κ f a b := by
  intro i j hi hij hj
  rcases Nat.lt_or_ge j m with h | h
  · exact h1 i j hi hij h
  · rcases Nat.lt_or_ge i m with g | g
    · exact h3 i j hi g h hj
    · exact h2 i j g hij hj
theorem cross_sw {κ : Int → Int} {f g : Nat → Int} {a m b : Nat} (h : ∀ x y, a ≤ x → x < m → m ≤ y → y < b → κ (f x) ≤ κ (f y)) (hs : Sw a m f g ∨ Sw m b f g) : ∀ x y, a ≤ x → x < m → m ≤ y → y < b → κ (g x) ≤ κ (g y) := by
  intro x y h1 h2 h3 h4
  rcases hs with hs | hs
  · rw [hs.out (x := y) (by omega)]
    exact hs.all (p := fun v => κ v ≤ κ (f y)) (fun z z1 z2 => h z y z1 z2 h3 h4) x h1 h2
  · rw [hs.out (x := x) (by omega)]
    exact hs.all (p := fun v => κ (f x) ≤ κ v) (fun z z1 z2 => h x z h1 h2 z1 z2) y h3 h4
end Go.Sp
namespace Go.Sp
theorem rot_id (f : Nat → Int) (a b : Nat) : rot f a a b = f := by
  funext x; simp only [rot]
  split
  · exact congrArg f (by omega)
  · split
    · omega
    · rfl
theorem rot_id2 (f : Nat → Int) (a b : Nat) (_h : a ≤ b) : rot f a b b = f := by
  funext x; simp only [rot]
  split
  · omega
  · split
    · exact congrArg f (by omega)
    · rfl
theorem rot_up (f : Nat → Int) {a k : Nat} (h : a ≤ k) : swp (rot f a (a + 1) (k + 1)) k (k + 1) = rot f a (a + 1) (k + 2) := by
  funext x; simp only [rot, swp]
  rcases Nat.lt_or_ge x a with c | c
  · repeat rw [if_neg (by omega)]
  rcases Nat.lt_or_ge x k with e | e
  · rw [if_neg (by omega), if_neg (by omega), if_pos (by omega), if_pos (by omega)]
  by_cases e1 : x = k
  · rw [if_neg (by omega), if_pos e1, if_neg (by omega), if_neg (by omega), if_pos (by omega)]
    exact congrArg f (by omega)
  by_cases e2 : x = k + 1
  · rw [if_pos e2, if_neg (by omega), if_pos (by omega), if_neg (by omega), if_pos (by omega)]
    exact congrArg f (by omega)
  · repeat rw [if_neg (by omega)]
theorem rot_dn (f : Nat → Int) {k m : Nat} (h : k + 1 ≤ m) : swp (rot f (k + 1) m (m + 1)) (k + 1) k = rot f k m (m + 1) := by
  funext x; simp only [rot, swp]
  by_cases e1 : x = k
  · rw [if_pos e1, if_pos (by omega), if_pos (by omega)]
    exact congrArg f (by omega)
  by_cases e2 : x = k + 1
  · rw [if_neg e1, if_pos e2, if_neg (by omega), if_neg (by omega), if_neg (by omega), if_pos (by omega)]
    exact congrArg f (by omega)
  rw [if_neg e1, if_neg e2]
  rcases Nat.lt_or_ge x k with c | c
  · repeat rw [if_neg (by omega)]
  rcases Nat.lt_or_ge x (m + 1) with e | e
  · rw [if_neg (by omega), if_pos (by omega), if_neg (by omega), if_pos (by omega)]
  · repeat rw [if_neg (by omega)]
theorem ins_left {κ : Int → Int} {f : Nat → Int} {a b i : Nat} (h : Srt κ f (a + 1) b) (h1 : a + 1 ≤ i) (h2 : i ≤ b) (hlo : i = a + 1 ∨ κ (f (i - 1)) ≤ κ (f a)) (hhi : i = b ∨ κ (f a) ≤ κ (f i)) : Srt κ (rot f a (a + 1) i) a b := by
  have g1 : ∀ x, a ≤ x → x + 1 < i → rot f a (a + 1) i x = f (x + 1) := fun x h3 h4 => by simp only [rot]; rw [if_pos (by omega)]; exact congrArg f (by omega)
  have g2 : rot f a (a + 1) i (i - 1) = f a := by simp only [rot]; rw [if_neg (by omega), if_pos (by omega)]; exact congrArg f (by omega)
  have g3 : ∀ x, i ≤ x → rot f a (a + 1) i x = f x := fun x hx => by simp only [rot]; rw [if_neg (by omega), if_neg (by omega)]
  have k1 : ∀ x, a ≤ x → x + 1 < i → κ (f (x + 1)) ≤ κ (f a) := fun x h3 h4 => by
    have := h (x + 1) (i - 1) (by omega) (by omega) (by omega)
    omega
  have k2 : ∀ x, i ≤ x → x < b → κ (f a) ≤ κ (f x) := fun x h3 h4 => by
    have := h i x (by omega) h3 h4
    omega
  intro x y hx hxy hy
  rcases Nat.lt_or_ge (x + 1) i with c | c
  · rw [g1 x hx c]
    rcases Nat.lt_or_ge (y + 1) i with e | e
    · rw [g1 y (by omega) e]; exact h _ _ (by omega) (by omega) (by omega)
    · by_cases e1 : y = i - 1
      · rw [e1, g2]; exact k1 x hx c
      · rw [g3 y (by omega)]; exact h _ _ (by omega) (by omega) hy
  · by_cases c1 : x = i - 1
    · rw [c1, g2]
      by_cases e1 : y = i - 1
      · rw [e1, g2]; exact Int.le_refl _
      · rw [g3 y (by omega)]; exact k2 y (by omega) hy
    · rw [g3 x (by omega), g3 y (by omega)]; exact h _ _ (by omega) hxy hy
theorem ins_right {κ : Int → Int} {f : Nat → Int} {a m i : Nat} (h : Srt κ f a m) (h1 : a ≤ i) (h2 : i ≤ m) (hlo : i = a ∨ κ (f (i - 1)) ≤ κ (f m)) (hhi : i = m ∨ κ (f m) ≤ κ (f i)) : Srt κ (rot f i m (m + 1)) a (m + 1) := by
  have g1 : ∀ x, x < i → rot f i m (m + 1) x = f x := fun x h4 => by simp only [rot]; rw [if_neg (by omega), if_neg (by omega)]
  have g2 : rot f i m (m + 1) i = f m := by simp only [rot]; rw [if_pos (by omega)]; exact congrArg f (by omega)
  have g3 : ∀ x, i < x → x < m + 1 → rot f i m (m + 1) x = f (x - 1) := fun x hx h4 => by simp only [rot]; rw [if_neg (by omega), if_pos (by omega)]; exact congrArg f (by omega)
  have k1 : ∀ x, a ≤ x → x < i → κ (f x) ≤ κ (f m) := fun x h3 h4 => by
    have := h x (i - 1) h3 (by omega) (by omega)
    omega
  have k2 : ∀ x, i ≤ x → x < m → κ (f m) ≤ κ (f x) := fun x h3 h4 => by
    have := h i x (by omega) h3 h4
    omega
  intro x y hx hxy hy
  rcases Nat.lt_or_ge x i with c | c
  · rw [g1 x c]
    rcases Nat.lt_or_ge y i with e | e
    · rw [g1 y e]; exact h _ _ hx hxy (by omega)
    · by_cases e1 : y = i
      · rw [e1, g2]; exact k1 x hx c
      · rw [g3 y (by omega) hy]; exact h _ _ hx (by omega) (by omega)
  · by_cases c1 : x = i
    · subst c1
      rw [g2]
      by_cases e1 : y = x
      · rw [e1, g2]; exact Int.le_refl _
      · rw [g3 y (by omega) hy]; exact k2 _ (by omega) (by omega)
    · rw [g3 x (by omega) (by omega), g3 y (by omega) hy]; exact h _ _ (by omega) (by omega) (by omega)
/-- One step of the insertion sort: the place j goes one down. -/
structure InsI (κ : Int → Int) (g : Nat → Int) (a j i : Nat) : Prop where
  lo : Srt κ g a j
  hi : Srt κ g j (i + 1)
  cross : ∀ x y, a ≤ x → x < j → j < y → y ≤ i → κ (g x) ≤ κ (g y)
theorem InsI.start {κ : Int → Int} {g : Nat → Int} {a i : Nat} (h : Srt κ g a i) : InsI κ g a i i :=
  ⟨h, fun x y h1 h2 h3 => by have : x = y := by omega
                             subst this; exact Int.le_refl _, fun x y h1 h2 h3 h4 => by omega⟩
theorem InsI.done {κ : Int → Int} {g : Nat → Int} {a j i : Nat} (h : InsI κ g a j i) (hj : a ≤ j) (hji : j ≤ i) (hd : j = a ∨ κ (g (j - 1)) ≤ κ (g j)) : Srt κ g a (i + 1) := by
  refine Srt.glue h.lo h.hi fun x y h1 h2 h3 h4 => ?_
  by_cases e : y = j
  · subst e
    have := h.lo x (y - 1) h1 (by omega) (by omega)
    omega
  · exact h.cross x y h1 h2 (by omega) (by omega)
theorem InsI.step {κ : Int → Int} {g : Nat → Int} {a j i : Nat} (h : InsI κ g a (j + 1) i) (hj : a ≤ j) (hji : j + 1 ≤ i) (hd : κ (g (j + 1)) < κ (g j)) : InsI κ (swp g (j + 1) j) a j i := by
  have s0 : swp g (j + 1) j j = g (j + 1) := by simp [swp]
  have s1 : swp g (j + 1) j (j + 1) = g j := by simp [swp]
  have s2 : ∀ x, x ≠ j → x ≠ j + 1 → swp g (j + 1) j x = g x := fun x h1 h2 => by simp [swp, h1, h2]
  refine ⟨fun x y h1 h2 h3 => ?_, fun x y h1 h2 h3 => ?_, fun x y h1 h2 h3 h4 => ?_⟩
  · rw [s2 x (by omega) (by omega), s2 y (by omega) (by omega)]; exact h.lo x y h1 h2 (by omega)
  · by_cases c : x = j
    · subst c
      rw [s0]
      by_cases e : y = x
      · subst e; rw [s0]; exact Int.le_refl _
      · by_cases e1 : y = x + 1
        · subst e1; rw [s1]; omega
        · rw [s2 y e e1]; exact h.hi _ _ (Nat.le_refl _) (by omega) (by omega)
    · by_cases c1 : x = j + 1
      · subst c1
        rw [s1]
        by_cases e1 : y = j + 1
        · subst e1; rw [s1]; exact Int.le_refl _
        · rw [s2 y (by omega) e1]; exact h.cross j y hj (by omega) (by omega) (by omega)
      · rw [s2 x c c1, s2 y (by omega) (by omega)]; exact h.hi x y (by omega) h2 h3
  · rw [s2 x (by omega) (by omega)]
    by_cases e1 : y = j + 1
    · subst e1; rw [s1]; exact h.lo x j h1 (by omega) (by omega)
    · rw [s2 y (by omega) e1]; exact h.cross x y h1 (by omega) (by omega) h4
/-- Sorted block by block, of c places each. -/
def BSrt (κ : Int → Int) (f : Nat → Int) (c a b : Nat) : Prop := ∀ x y, a ≤ x → x ≤ y → y < b → x / c = y / c → κ (f x) ≤ κ (f y)
theorem BSrt.srt {κ : Int → Int} {f : Nat → Int} {c t b : Nat} (h : BSrt κ f c (c * t) b) (hc : 0 < c) {e : Nat} (h1 : e ≤ b) (h2 : e ≤ c * t + c) : Srt κ f (c * t) e := by
  intro x y h3 h4 h5
  refine h x y h3 h4 (by omega) ?_
  have : ∀ z, c * t ≤ z → z < c * t + c → z / c = t := fun z h6 h7 => by
    refine Nat.div_eq_of_lt_le ?_ ?_
    · rw [Nat.mul_comm]; exact h6
    · rw [Nat.succ_mul, Nat.mul_comm]; exact h7
  rw [this x h3 (by omega), this y (by omega) (by omega)]
theorem BSrt.add {κ : Int → Int} {f : Nat → Int} {c t e : Nat} (h : BSrt κ f c 0 (c * t)) (hc : 0 < c) (hs : Srt κ f (c * t) e) : BSrt κ f c 0 e := by
  intro x y h1 h2 h3 h4
  rcases Nat.lt_or_ge y (c * t) with g | g
  · exact h x y h1 h2 g h4
  · rcases Nat.lt_or_ge x (c * t) with k | k
    · exfalso
      have h5 : x / c < t := by rw [Nat.div_lt_iff_lt_mul hc, Nat.mul_comm]; exact k
      have h6 : t ≤ y / c := by rw [Nat.le_div_iff_mul_le hc, Nat.mul_comm]; exact g
      omega
    · exact hs x y k h2 h3
theorem BSrt.all {κ : Int → Int} {f : Nat → Int} {c b : Nat} (h : BSrt κ f c 0 b) (hb : b ≤ c) : Srt κ f 0 b := by
  intro x y h1 h2 h3
  exact h x y h1 h2 h3 (by rw [Nat.div_eq_of_lt (by omega), Nat.div_eq_of_lt (by omega)])
theorem BSrt.congr {κ : Int → Int} {f g : Nat → Int} {c a b : Nat} (h : BSrt κ f c a b) (he : ∀ x, a ≤ x → x < b → g x = f x) : BSrt κ g c a b := by
  intro x y h1 h2 h3 h4
  rw [he x h1 (by omega), he y (by omega) h3]
  exact h x y h1 h2 h3 h4
theorem BSrt.sub {κ : Int → Int} {f : Nat → Int} {c a a' b : Nat} (h : BSrt κ f c a b) (h1 : a ≤ a') : BSrt κ f c a' b := fun x y h2 h3 h4 h5 => h x y (by omega) h3 h4 h5
end Go.Sp
