/-
  Chapter 49 (project), plain: the text of a project, and what a text describes.
-/
namespace Go.Proofs.YtmkenekngaihhaaGreatDoor
set_option linter.unusedVariables false
set_option linter.unusedSimpArgs false

/-- a target -/
structure Tg where
  nm : List UInt8
  kd : List UInt8
  pg : Int
  wd : Int
/-- a project -/
structure Pj where
  ti : List UInt8
  la : List UInt8
  ma : List UInt8
  so : List UInt8
  st : List UInt8
  vs : List (List UInt8 × List UInt8)
  fs : List (List UInt8)
  ts : List Tg
/-- what the layers below say: trimmed clean text, a path in normal form, a language, a name -/
structure Pk where
  tr : List UInt8 → Bool
  pa : List UInt8 → Bool
  la : List UInt8 → Bool
  nm : List UInt8 → Bool

def kPages : List UInt8 := [112, 97, 103, 101, 115]
def kHtml : List UInt8 := [104, 116, 109, 108]
def kBook : List UInt8 := [98, 111, 111, 107]
def kSlides : List UInt8 := [115, 108, 105, 100, 101, 115]
def reserved (s : List UInt8) : Bool := s == [97, 110, 100] || s == [111, 114] || s == [110, 111, 116] || s == [116, 114, 117, 101] || s == [102, 97, 108, 115, 101]

def varsE (k : Pk) (seen : List (List UInt8)) : List (List UInt8 × List UInt8) → Int
  | [] => 0
  | v :: r => if k.nm v.1 = false then 6 else if k.tr v.2 = false then 17 else if v.1 ∈ seen then 7 else varsE k (seen ++ [v.1]) r
def flagsE (k : Pk) (seen : List (List UInt8)) : List (List UInt8) → Int
  | [] => 0
  | s :: r => if (k.nm s && !reserved s) = false then 6 else if s ∈ seen then 7 else flagsE k (seen ++ [s]) r
def kindE (t : Tg) : Int :=
  if t.kd = kPages then (if t.pg < 5 ∨ 1000 < t.pg ∨ t.wd < 500 ∨ 100000 < t.wd then 9 else 0)
  else if t.kd = kHtml ∨ t.kd = kBook ∨ t.kd = kSlides then (if t.pg ≠ 0 ∨ t.wd ≠ 0 then 9 else 0) else 13
def targetsE (k : Pk) (seen : List (List UInt8)) : List Tg → Int
  | [] => 0
  | t :: r => if (k.nm t.nm && decide (58 ∉ t.nm)) = false then 6 else if t.nm ∈ seen then 7 else if kindE t ≠ 0 then kindE t else targetsE k (seen ++ [t.nm]) r
def headE (k : Pk) (p : Pj) : Int :=
  if k.tr p.ti = false then 17
  else if k.la p.la = false ∨ k.pa p.ma = false ∨ (p.so ≠ [] ∧ k.pa p.so = false) ∨ (p.st ≠ [] ∧ k.pa p.st = false) then 6 else 0
def varsT (k : Pk) (l : List (List UInt8 × List UInt8)) : Int := if 32 < l.length then 3 else varsE k [] l
def flagsT (k : Pk) (l : List (List UInt8)) : Int := if 32 < l.length then 3 else flagsE k [] l
def targetsT (k : Pk) (l : List Tg) : Int := if 8 < l.length then 3 else if l = [] then 8 else targetsE k [] l
/-- the error of a project -/
def checkE (k : Pk) (p : Pj) : Int :=
  if headE k p ≠ 0 then headE k p else if varsT k p.vs ≠ 0 then varsT k p.vs else if flagsT k p.fs ≠ 0 then flagsT k p.fs else targetsT k p.ts

def numS (n : Nat) : List UInt8 := if h : n < 10 then [UInt8.ofNat (48 + n)] else numS (n / 10) ++ [UInt8.ofNat (48 + n % 10)]
def eqTail (v : List UInt8) : List UInt8 := if v = [] then [32, 61] else [32, 61, 32] ++ v
/-- a line that gives a name a value -/
def setL (n v : List UInt8) : List UInt8 := n ++ eqTail v
def targetL (t : Tg) : List UInt8 := [116, 97, 114, 103, 101, 116, 32] ++ t.nm ++ [32] ++ t.kd ++ (if t.kd = kPages then [32] ++ numS t.pg.toNat ++ [32] ++ numS t.wd.toNat else [])
/-- the lines of a project -/
def linesP (p : Pj) : List (List UInt8) :=
  [setL [116, 105, 116, 108, 101] p.ti, setL [108, 97, 110, 103] p.la, setL [109, 97, 105, 110] p.ma, setL [115, 111, 117, 114, 99, 101, 115] p.so, setL [115, 116, 121, 108, 101] p.st] ++
  p.vs.map (fun v => setL ([118, 97, 114, 32] ++ v.1) v.2) ++ p.fs.map (fun f => [102, 108, 97, 103, 32] ++ f) ++ p.ts.map targetL
def textP (p : Pj) : List UInt8 := (linesP p).flatMap (· ++ [10])

/-- the value behind an equals sign -/
def valP : List UInt8 → Option (List UInt8)
  | [] => some []
  | [_] => none
  | c :: d :: r => if c = 32 then some (d :: r) else none
def cutP (p s : List UInt8) : Option (List UInt8) := if p.isPrefixOf s then some (s.drop p.length) else none
def fixP (n s : List UInt8) : Option (List UInt8) := (cutP (n ++ [32, 61]) s).bind valP
def heads : List (List UInt8) := [[116, 105, 116, 108, 101], [108, 97, 110, 103], [109, 97, 105, 110], [115, 111, 117, 114, 99, 101, 115], [115, 116, 121, 108, 101]]
def headP : List (List UInt8) → Nat → List (List UInt8) → List (List UInt8) → Except Nat (List (List UInt8) × List (List UInt8))
  | [], i, ls, vs => .ok (vs, ls)
  | n :: ns, i, [], vs => .error (i + 1)
  | n :: ns, i, l :: ls, vs => match fixP n l with
    | none => .error (i + 1)
    | some v => headP ns (i + 1) ls (vs ++ [v])
def varP (key : List UInt8) : List UInt8 → Option (List UInt8 × List UInt8)
  | [] => none
  | c :: r => if c = 32 ∧ r.head? = some 61 then (valP r.tail).map (fun v => (key, v)) else varP (key ++ [c]) r
/-- a text divided at its spaces -/
def wordsGo (cur : List UInt8) : List UInt8 → List (List UInt8)
  | [] => [cur]
  | c :: r => if c = 32 then cur :: wordsGo [] r else wordsGo (cur ++ [c]) r
def wordsP (s : List UInt8) : List (List UInt8) := wordsGo [] s
def digB (c : UInt8) : Bool := decide (48 ≤ c) && decide (c ≤ 57)
def valD (n : Nat) (s : List UInt8) : Nat := s.foldl (fun n c => 10 * n + (c.toNat - 48)) n
def numP (s : List UInt8) : Option Nat := if s = [] ∨ 6 < s.length ∨ (1 < s.length ∧ s.head? = some 48) ∨ s.all digB = false then none else some (valD 0 s)
def targetP (s : List UInt8) : Option Tg :=
  if [] ∈ wordsP s then none else
  match wordsP s with
  | [n, k] => if k = kPages then none else some ⟨n, k, 0, 0⟩
  | [n, k, a, b] => if k = kPages then (match numP a, numP b with
    | some x, some y => some ⟨n, k, x, y⟩
    | _, _ => none) else none
  | _ => none
def moreP (p : Pj) (l : List UInt8) (stage : Nat) : Option (Pj × Nat) :=
  if [118, 97, 114, 32].isPrefixOf l = true ∧ stage = 0 then (varP [] (l.drop 4)).map fun v => ({ p with vs := p.vs ++ [v] }, 0)
  else if [102, 108, 97, 103, 32].isPrefixOf l = true ∧ stage ≤ 1 then (if l.drop 5 ≠ [] ∧ 32 ∉ l.drop 5 then some ({ p with fs := p.fs ++ [l.drop 5] }, 1) else none)
  else if [116, 97, 114, 103, 101, 116, 32].isPrefixOf l = true then (targetP (l.drop 7)).map fun t => ({ p with ts := p.ts ++ [t] }, 2)
  else none
def tailP (p : Pj) (stage i : Nat) : List (List UInt8) → Except Nat Pj
  | [] => .ok p
  | l :: r => match moreP p l stage with
    | none => .error (i + 1)
    | some x => tailP x.1 x.2 (i + 1) r
def pj0 : Pj := ⟨[], [], [], [], [], [], [], []⟩
def pjOf (vs : List (List UInt8)) : Pj := ⟨vs.getD 0 [], vs.getD 1 [], vs.getD 2 [], vs.getD 3 [], vs.getD 4 [], [], [], []⟩
/-- the project that lines describe, or the line that is wrong, or the error -/
def parseL (k : Pk) (ls : List (List UInt8)) : Pj × Nat × Int :=
  match headP heads 0 ls [] with
  | .error i => (pj0, i, 5)
  | .ok (vs, r) => match tailP (pjOf vs) 0 5 r with
    | .error i => (pj0, i, 5)
    | .ok p => if checkE k p ≠ 0 then (pj0, 0, checkE k p) else (p, 0, 0)

/-! ### numbers -/
theorem numS_lt (n : Nat) (h : n < 10) : numS n = [UInt8.ofNat (48 + n)] := by rw [numS, dif_pos h]
theorem numS_ge (n : Nat) (h : ¬ n < 10) : numS n = numS (n / 10) ++ [UInt8.ofNat (48 + n % 10)] := by rw [numS, dif_neg h]
theorem dig_nat (d : Nat) (h : d < 10) : (UInt8.ofNat (48 + d)).toNat = 48 + d := by
  rw [UInt8.toNat_ofNat']; omega
theorem digB_dig (d : Nat) (h : d < 10) : digB (UInt8.ofNat (48 + d)) = true := by
  unfold digB
  rw [Bool.and_eq_true, decide_eq_true_eq, decide_eq_true_eq, UInt8.le_iff_toNat_le, UInt8.le_iff_toNat_le, dig_nat d h]
  have h1 : (48 : UInt8).toNat = 48 := rfl
  have h2 : (57 : UInt8).toNat = 57 := rfl
  omega
theorem digB_nat {c : UInt8} (h : digB c = true) : 48 ≤ c.toNat ∧ c.toNat ≤ 57 := by
  unfold digB at h
  rw [Bool.and_eq_true, decide_eq_true_eq, decide_eq_true_eq, UInt8.le_iff_toNat_le, UInt8.le_iff_toNat_le] at h
  exact h
theorem valD_append (n : Nat) (a b : List UInt8) : valD n (a ++ b) = valD (valD n a) b := by unfold valD; rw [List.foldl_append]
theorem numS_spec (n : Nat) : (numS n ≠ []) ∧ (numS n).all digB = true ∧ valD 0 (numS n) = n ∧ (1 < (numS n).length → (numS n).head? ≠ some 48) ∧ (0 < n → (numS n).head? ≠ some 48) ∧ (∀ k, n < 10 ^ k → 0 < k → (numS n).length ≤ k) := by
  induction n using Nat.strongRecOn with
  | ind n ih =>
    by_cases h : n < 10
    · rw [numS_lt n h]
      refine ⟨by simp, by rw [List.all_cons, digB_dig n h]; rfl, ?_, by simp, ?_, fun k _ hk => hk⟩
      · show 10 * 0 + ((UInt8.ofNat (48 + n)).toNat - 48) = n
        rw [dig_nat n h]; omega
      · intro hn he
        have he : UInt8.ofNat (48 + n) = 48 := by simpa using he
        have := congrArg UInt8.toNat he
        rw [dig_nat n h] at this
        have h1 : (48 : UInt8).toNat = 48 := rfl
        omega
    · rw [numS_ge n h]
      obtain ⟨h1, h2, h3, h4, h5, h6⟩ := ih (n / 10) (by omega)
      have hd : n % 10 < 10 := by omega
      have hh : (numS (n / 10) ++ [UInt8.ofNat (48 + n % 10)]).head? = (numS (n / 10)).head? := by
        cases hx : numS (n / 10) with
        | nil => exact absurd hx h1
        | cons a r => rfl
      refine ⟨by simp, by rw [List.all_append, h2, List.all_cons, digB_dig _ hd]; rfl, ?_, ?_, ?_, ?_⟩
      · rw [valD_append, h3]
        show 10 * (n / 10) + ((UInt8.ofNat (48 + n % 10)).toNat - 48) = n
        rw [dig_nat _ hd]; omega
      · intro _; rw [hh]; exact h5 (by omega)
      · intro _; rw [hh]; exact h5 (by omega)
      · intro k hk h0
        rw [List.length_append]
        have hk1 : k ≠ 1 := by rintro rfl; omega
        have := h6 (k - 1) (by
          have e : k = (k - 1) + 1 := by omega
          rw [e, Nat.pow_succ] at hk
          omega) (by omega)
        simp only [List.length_cons, List.length_nil]
        omega
theorem numP_numS (n : Nat) (h : n ≤ 999999) : numP (numS n) = some n := by
  obtain ⟨h1, h2, h3, h4, h5, h6⟩ := numS_spec n
  have := h6 6 (by omega) (by omega)
  unfold numP
  rw [if_neg, h3]
  rintro (e | e | ⟨e1, e2⟩ | e)
  · exact h1 e
  · omega
  · exact h4 e1 e2
  · rw [h2] at e; cases e
theorem valD_lt : ∀ (s : List UInt8) (n : Nat), s.all digB = true → valD n s < (n + 1) * 10 ^ s.length := by
  intro s
  induction s with
  | nil => intro n _; simp [valD]
  | cons c r ih =>
    intro n h
    rw [List.all_cons, Bool.and_eq_true] at h
    have hc := digB_nat h.1
    have h2 := ih (10 * n + (c.toNat - 48)) h.2
    have e : valD n (c :: r) = valD (10 * n + (c.toNat - 48)) r := rfl
    rw [e, List.length_cons, Nat.pow_succ]
    refine Nat.lt_of_lt_of_le h2 ?_
    rw [Nat.mul_comm (10 ^ r.length) 10, ← Nat.mul_assoc]
    exact Nat.mul_le_mul_right _ (by omega)
theorem numS_valD : ∀ (s : List UInt8), s ≠ [] → s.all digB = true → (1 < s.length → s.head? ≠ some 48) → numS (valD 0 s) = s := by
  intro s
  induction hn : s.length generalizing s with
  | zero => intro h; exact absurd (List.eq_nil_of_length_eq_zero hn) h
  | succ n ih =>
    intro _ hd hz
    rcases List.eq_nil_or_concat s with rfl | ⟨t, c, rfl⟩
    · cases hn
    · rw [List.concat_eq_append] at hn hd hz ⊢
      rw [List.length_append] at hn
      simp only [List.length_cons, List.length_nil, Nat.add_right_cancel_iff] at hn
      rw [List.all_append, Bool.and_eq_true] at hd
      have hc := digB_nat (by simpa using hd.2)
      have e : valD 0 (t ++ [c]) = 10 * valD 0 t + (c.toNat - 48) := by rw [valD_append]; rfl
      have ec : UInt8.ofNat (48 + (c.toNat - 48)) = c := by
        apply UInt8.toNat_inj.1
        rw [dig_nat _ (by omega)]; omega
      rw [e]
      by_cases ht : t = []
      · subst ht
        have e0 : valD 0 ([] : List UInt8) = 0 := rfl
        rw [e0, numS_lt _ (by omega), Nat.mul_zero, Nat.zero_add, ec]; rfl
      · have hz' : t.head? ≠ some 48 := by
          have := hz (by have := List.length_pos_iff.2 ht; omega)
          cases t with
          | nil => exact absurd rfl ht
          | cons a r => simpa using this
        have hp : 0 < valD 0 t := by
          cases t with
          | nil => exact absurd rfl ht
          | cons a r =>
            have ha := digB_nat (by have := hd.1; rw [List.all_cons, Bool.and_eq_true] at this; exact this.1)
            have hne : a.toNat ≠ 48 := fun h => hz' (by
              have : a = 48 := UInt8.toNat_inj.1 h
              rw [this]; rfl)
            have mono : ∀ (l : List UInt8) (n : Nat), n ≤ valD n l := by
              intro l
              induction l with
              | nil => intro n; exact Nat.le_refl _
              | cons x l ih => intro n; have := ih (10 * n + (x.toNat - 48)); show n ≤ valD (10 * n + (x.toNat - 48)) l; omega
            have := mono r (10 * 0 + (a.toNat - 48))
            show 0 < valD (10 * 0 + (a.toNat - 48)) r
            omega
        rw [numS_ge _ (by omega)]
        have e1 : (10 * valD 0 t + (c.toNat - 48)) / 10 = valD 0 t := by omega
        have e2 : (10 * valD 0 t + (c.toNat - 48)) % 10 = c.toNat - 48 := by omega
        rw [e1, e2, ec, ih t hn ht hd.1 (fun _ => hz')]
theorem numS_numP {s : List UInt8} {n : Nat} (h : numP s = some n) : numS n = s ∧ n ≤ 999999 := by
  unfold numP at h
  split at h
  · cases h
  · rename_i hc
    injection h with h
    subst h
    simp only [not_or, not_and] at hc
    obtain ⟨h1, h2, h3, h4⟩ := hc
    have hd : s.all digB = true := by cases hx : s.all digB with
      | true => rfl
      | false => exact absurd hx h4
    refine ⟨numS_valD s h1 hd h3, ?_⟩
    have := valD_lt s 0 hd
    have : (10 : Nat) ^ s.length ≤ 10 ^ 6 := Nat.pow_le_pow_right (by omega) (by omega)
    omega

/-! ### words -/
theorem wordsGo_no (cur a : List UInt8) (h : 32 ∉ a) : wordsGo cur a = [cur ++ a] := by
  induction a generalizing cur with
  | nil => simp [wordsGo]
  | cons c r ih =>
    rw [wordsGo, if_neg (by rintro rfl; exact h (List.mem_cons_self ..)), ih _ (fun hm => h (List.mem_cons_of_mem _ hm))]
    simp
theorem wordsGo_sp (cur a b : List UInt8) (h : 32 ∉ a) : wordsGo cur (a ++ 32 :: b) = (cur ++ a) :: wordsGo [] b := by
  induction a generalizing cur with
  | nil => simp [wordsGo]
  | cons c r ih =>
    rw [List.cons_append, wordsGo, if_neg (by rintro rfl; exact h (List.mem_cons_self ..)), ih _ (fun hm => h (List.mem_cons_of_mem _ hm))]
    simp
theorem wordsP_no (a : List UInt8) (h : 32 ∉ a) : wordsP a = [a] := by unfold wordsP; rw [wordsGo_no _ _ h]; rfl
theorem wordsP_sp (a b : List UInt8) (h : 32 ∉ a) : wordsP (a ++ 32 :: b) = a :: wordsP b := by unfold wordsP; rw [wordsGo_sp _ _ _ h]; rfl
/-- words, with a space between them -/
def unw : List (List UInt8) → List UInt8
  | [] => []
  | [a] => a
  | a :: b :: r => a ++ 32 :: unw (b :: r)
theorem wordsGo_ne (cur s : List UInt8) : wordsGo cur s ≠ [] := by
  induction s generalizing cur with
  | nil => simp [wordsGo]
  | cons c r ih =>
    rw [wordsGo]
    split
    · simp
    · exact ih _
theorem unw_words (cur s : List UInt8) : unw (wordsGo cur s) = cur ++ s := by
  induction s generalizing cur with
  | nil => simp [wordsGo, unw]
  | cons c r ih =>
    rw [wordsGo]
    by_cases h : c = 32
    · subst h
      rw [if_pos rfl]
      have := ih []
      cases hx : wordsGo [] r with
      | nil => exact absurd hx (wordsGo_ne _ _)
      | cons a q => rw [hx] at this; rw [unw, this]; rfl
    · rw [if_neg h, ih]; simp

/-! ### lines -/
theorem cutP_app (p s : List UInt8) : cutP p (p ++ s) = some s := by
  unfold cutP
  rw [if_pos (by rw [List.isPrefixOf_iff_prefix]; exact List.prefix_append p s)]
  simp
theorem cutP_some {p s t : List UInt8} (h : cutP p s = some t) : s = p ++ t := by
  unfold cutP at h
  split at h
  · rename_i hp
    rw [List.isPrefixOf_iff_prefix] at hp
    obtain ⟨r, rfl⟩ := hp
    injection h with h
    rw [← h]; simp
  · cases h
theorem valP_tail (v : List UInt8) : valP ((eqTail v).drop 2) = some v := by
  unfold eqTail
  cases v with
  | nil => rfl
  | cons a r => rw [if_neg (by simp)]; rfl
theorem valP_some {s v : List UInt8} (h : valP s = some v) : [32, 61] ++ s = eqTail v := by
  unfold eqTail
  match s, h with
  | [], h => injection h with h; subst h; rfl
  | [a], h => cases h
  | c :: d :: r, h =>
    rw [valP] at h
    split at h
    · rename_i hc
      subst hc
      injection h with h
      subst h
      rfl
    · cases h
theorem fixP_set (n v : List UInt8) : fixP n (setL n v) = some v := by
  have e : setL n v = (n ++ [32, 61]) ++ (eqTail v).drop 2 := by
    unfold setL eqTail
    cases v <;> simp
  unfold fixP
  rw [e, cutP_app, Option.bind_some, valP_tail]
theorem fixP_some {n l v : List UInt8} (h : fixP n l = some v) : l = setL n v := by
  unfold fixP at h
  rw [Option.bind_eq_some_iff] at h
  obtain ⟨t, h1, h2⟩ := h
  have := cutP_some h1
  unfold setL
  rw [← valP_some h2, this]; simp
theorem varP_key (v : List UInt8) : ∀ (a key : List UInt8), 32 ∉ a → varP key (a ++ eqTail v) = some (key ++ a, v) := by
  intro a
  induction a with
  | nil =>
    intro key _
    have e : eqTail v = 32 :: 61 :: (eqTail v).drop 2 := by unfold eqTail; cases v <;> simp
    rw [List.nil_append, e, varP, if_pos ⟨rfl, rfl⟩, List.tail_cons, valP_tail]; simp
  | cons c r ih =>
    intro key h
    rw [List.cons_append, varP, if_neg (by rintro ⟨rfl, _⟩; exact h (List.mem_cons_self ..)), ih _ (fun hm => h (List.mem_cons_of_mem _ hm))]
    simp
theorem varP_some : ∀ (s key : List UInt8) {x : List UInt8 × List UInt8}, varP key s = some x → key ++ s = x.1 ++ eqTail x.2 := by
  intro s
  induction s with
  | nil => intro key x h; cases h
  | cons c r ih =>
    intro key x h
    rw [varP] at h
    split at h
    · rename_i hc
      obtain ⟨rfl, hc⟩ := hc
      rw [Option.map_eq_some_iff] at h
      obtain ⟨v, h1, rfl⟩ := h
      have := valP_some h1
      cases r with
      | nil => cases hc
      | cons d q =>
        have hd : d = 61 := by simpa using hc
        subst hd
        show key ++ 32 :: 61 :: q = key ++ eqTail v
        rw [← this]; rfl
    · have := ih _ h
      rw [← this]; simp
theorem head_parse (k : Pk) : ∀ (ns vs ls acc : List (List UInt8)) (i : Nat), ns.length = vs.length → headP ns i ((ns.zip vs).map (fun x => setL x.1 x.2) ++ ls) acc = .ok (acc ++ vs, ls) := by
  intro ns
  induction ns with
  | nil =>
    intro vs ls acc i h
    have : vs = [] := List.eq_nil_of_length_eq_zero h.symm
    subst this
    simp [headP]
  | cons n ns ih =>
    intro vs ls acc i h
    cases vs with
    | nil => cases h
    | cons v vs =>
      simp only [List.zip_cons_cons, List.map_cons, List.cons_append]
      rw [headP]
      simp only [fixP_set]
      rw [ih vs ls _ _ (by simpa using h)]
      simp
theorem head_some : ∀ (ns ls acc : List (List UInt8)) (i : Nat) {vs r : List (List UInt8)}, headP ns i ls acc = .ok (vs, r) → ∃ v, vs = acc ++ v ∧ v.length = ns.length ∧ ls = (ns.zip v).map (fun x => setL x.1 x.2) ++ r := by
  intro ns
  induction ns with
  | nil =>
    intro ls acc i vs r h
    rw [headP] at h
    injection h with h
    injection h with h1 h2
    subst h1 h2
    exact ⟨[], by simp, rfl, by simp⟩
  | cons n ns ih =>
    intro ls acc i vs r h
    cases ls with
    | nil => cases h
    | cons l ls =>
      rw [headP] at h
      cases hf : fixP n l with
      | none => rw [hf] at h; cases h
      | some v =>
        rw [hf] at h
        obtain ⟨w, h1, h2, h3⟩ := ih _ _ _ h
        refine ⟨v :: w, by rw [h1]; simp, by simp [h2], ?_⟩
        rw [fixP_some hf, h3]
        rfl

/-! ### the lines behind the first five -/
def wVar : List UInt8 := [118, 97, 114, 32]
def wFlag : List UInt8 := [102, 108, 97, 103, 32]
def wTarget : List UInt8 := [116, 97, 114, 103, 101, 116, 32]
theorem pre_app (p s : List UInt8) : p.isPrefixOf (p ++ s) = true := by rw [List.isPrefixOf_iff_prefix]; exact List.prefix_append p s
theorem pre_some {p s : List UInt8} (h : p.isPrefixOf s = true) : s = p ++ s.drop p.length := by
  rw [List.isPrefixOf_iff_prefix] at h
  obtain ⟨r, rfl⟩ := h
  simp
/-- the lines of a project behind the first five -/
def bodyL (p : Pj) : List (List UInt8) := p.vs.map (fun v => setL ([118, 97, 114, 32] ++ v.1) v.2) ++ p.fs.map (fun f => [102, 108, 97, 103, 32] ++ f) ++ p.ts.map targetL
theorem linesP_eq (p : Pj) : linesP p = (heads.zip [p.ti, p.la, p.ma, p.so, p.st]).map (fun x => setL x.1 x.2) ++ bodyL p := by
  unfold linesP bodyL heads
  simp [List.append_assoc]
theorem target_some {s : List UInt8} {t : Tg} (h : targetP s = some t) : [116, 97, 114, 103, 101, 116, 32] ++ s = targetL t := by
  have hu := unw_words [] s
  rw [List.nil_append] at hu
  unfold targetP at h
  split at h
  · cases h
  unfold wordsP at h
  split at h
  · rename_i n k e
    rw [e] at hu
    split at h
    · cases h
    · rename_i hk
      injection h with h
      subst h
      unfold targetL
      rw [if_neg hk, ← hu]
      simp [unw]
  · rename_i n k a b e
    rw [e] at hu
    split at h
    · rename_i hk
      split at h
      · rename_i x y hx hy
        injection h with h
        subst h
        unfold targetL
        rw [if_pos hk, ← hu]
        obtain ⟨h1, _⟩ := numS_numP hx
        obtain ⟨h2, _⟩ := numS_numP hy
        simp [unw, h1, h2]
      · cases h
    · cases h
  · cases h
/-- what a stage says of the project -/
def Stg (p : Pj) (st : Nat) : Prop := st ≤ 2 ∧ (st = 0 → p.fs = []) ∧ (st ≤ 1 → p.ts = [])
theorem more_some {p : Pj} {l : List UInt8} {st : Nat} {x : Pj × Nat} (h : moreP p l st = some x) (hs : Stg p st) :
    bodyL x.1 = bodyL p ++ [l] ∧ Stg x.1 x.2 ∧ x.1.ti = p.ti ∧ x.1.la = p.la ∧ x.1.ma = p.ma ∧ x.1.so = p.so ∧ x.1.st = p.st := by
  unfold moreP at h
  split at h
  · rename_i hc
    obtain ⟨hp, rfl⟩ := hc
    rw [Option.map_eq_some_iff] at h
    obtain ⟨v, hv, rfl⟩ := h
    have h1 := hs.2.1 rfl
    have h2 := hs.2.2 (by omega)
    have h3 := varP_some _ _ hv
    have h4 := pre_some hp
    rw [List.nil_append] at h3
    refine ⟨?_, ⟨by omega, fun _ => h1, fun _ => h2⟩, rfl, rfl, rfl, rfl, rfl⟩
    unfold bodyL
    simp only [h1, h2, List.map_nil, List.append_nil, List.map_append, List.map_cons]
    congr 2
    unfold setL
    rw [List.append_assoc, ← h3]
    exact h4.symm
  · split at h
    · rename_i hc
      split at h
      · rename_i hw
        injection h with h
        subst h
        have h2 := hs.2.2 hc.2
        have h4 := pre_some hc.1
        refine ⟨?_, ⟨by simp, fun e => by simp at e, fun _ => h2⟩, rfl, rfl, rfl, rfl, rfl⟩
        unfold bodyL
        simp only [h2, List.map_nil, List.append_nil, List.map_append, List.map_cons, List.append_assoc]
        congr 3
        exact h4.symm
      · cases h
    · split at h
      · rename_i hp
        rw [Option.map_eq_some_iff] at h
        obtain ⟨t, ht, rfl⟩ := h
        have h4 := pre_some hp
        refine ⟨?_, ⟨by simp, fun e => by simp at e, fun e => by simp at e⟩, rfl, rfl, rfl, rfl, rfl⟩
        unfold bodyL
        simp only [List.map_append, List.map_cons, List.map_nil, List.append_assoc]
        congr 4
        rw [← target_some ht]
        exact h4.symm
      · cases h
theorem tail_some : ∀ (ls : List (List UInt8)) (p : Pj) (st i : Nat) {q : Pj}, tailP p st i ls = .ok q → Stg p st →
    bodyL q = bodyL p ++ ls ∧ q.ti = p.ti ∧ q.la = p.la ∧ q.ma = p.ma ∧ q.so = p.so ∧ q.st = p.st := by
  intro ls
  induction ls with
  | nil => intro p st i q h _; injection h with h; subst h; simp
  | cons l r ih =>
    intro p st i q h hs
    rw [tailP] at h
    cases hm : moreP p l st with
    | none => rw [hm] at h; cases h
    | some x =>
      rw [hm] at h
      obtain ⟨h1, h2, a1, a2, a3, a4, a5⟩ := more_some hm hs
      obtain ⟨b0, b1, b2, b3, b4, b5⟩ := ih _ _ _ h h2
      refine ⟨by rw [b0, h1]; simp, b1.trans a1, b2.trans a2, b3.trans a3, b4.trans a4, b5.trans a5⟩
/-- what is read has the lines that were read as its lines -/
theorem parse_exact {k : Pk} {ls : List (List UInt8)} {p : Pj} (h : parseL k ls = (p, 0, 0)) (h0 : ls ≠ []) : linesP p = ls ∧ checkE k p = 0 := by
  unfold parseL at h
  split at h
  · rename_i i hi
    injection h with _ h
    injection h with h h1
    cases h1
  · rename_i vs r hh
    split at h
    · injection h with _ h
      injection h with h h1
      cases h1
    · rename_i q hq
      obtain ⟨v, h1, h2, h3⟩ := head_some _ _ _ _ hh
      rw [List.nil_append] at h1
      subst h1
      split at h
      · rename_i hc
        injection h with _ h
        injection h with _ h
        exact absurd h hc
      · rename_i hc
        injection h with h _
        subst h
        obtain ⟨b0, b1, b2, b3, b4, b5⟩ := tail_some _ _ _ _ hq ⟨by omega, fun _ => rfl, fun _ => rfl⟩
        refine ⟨?_, by omega⟩
        rw [linesP_eq, b0, b1, b2, b3, b4, b5, h3]
        match vs, h2 with
        | [v0, v1, v2, v3, v4], _ => rfl
theorem varsE_mem {k : Pk} : ∀ (l : List (List UInt8 × List UInt8)) (seen : List (List UInt8)), varsE k seen l = 0 → ∀ v ∈ l, k.nm v.1 = true ∧ k.tr v.2 = true := by
  intro l
  induction l with
  | nil => intro seen _ v hv; cases hv
  | cons a r ih =>
    intro seen h v hv
    rw [varsE] at h
    split at h
    · cases h
    · rename_i h1
      split at h
      · cases h
      · rename_i h2
        split at h
        · cases h
        · rcases List.mem_cons.1 hv with rfl | hv
          · exact ⟨by simpa using h1, by simpa using h2⟩
          · exact ih _ h v hv
theorem flagsE_mem {k : Pk} : ∀ (l : List (List UInt8)) (seen : List (List UInt8)), flagsE k seen l = 0 → ∀ v ∈ l, k.nm v = true := by
  intro l
  induction l with
  | nil => intro seen _ v hv; cases hv
  | cons a r ih =>
    intro seen h v hv
    rw [flagsE] at h
    split at h
    · cases h
    · rename_i h1
      split at h
      · cases h
      · rcases List.mem_cons.1 hv with rfl | hv
        · have h1 : (k.nm v && !reserved v) = true := by simpa using h1
          rw [Bool.and_eq_true] at h1
          exact h1.1
        · exact ih _ h v hv
theorem targetsE_mem {k : Pk} : ∀ (l : List Tg) (seen : List (List UInt8)), targetsE k seen l = 0 → ∀ t ∈ l, k.nm t.nm = true ∧ kindE t = 0 := by
  intro l
  induction l with
  | nil => intro seen _ v hv; cases hv
  | cons a r ih =>
    intro seen h v hv
    rw [targetsE] at h
    split at h
    · cases h
    · rename_i h1
      split at h
      · cases h
      · split at h
        · rename_i h2; exact absurd h h2
        · rename_i h2
          rcases List.mem_cons.1 hv with rfl | hv
          · have h1 : (k.nm v.nm && decide (58 ∉ v.nm)) = true := by simpa using h1
            rw [Bool.and_eq_true] at h1
            exact ⟨h1.1, by simpa using h2⟩
          · exact ih _ h v hv
/-- what is known of the words below -/
structure PkOk (k : Pk) : Prop where
  tr : ∀ s, k.tr s = true → 10 ∉ s
  pa : ∀ s, k.pa s = true → 10 ∉ s
  la : ∀ s, k.la s = true → 10 ∉ s
  nm : ∀ s, k.nm s = true → 10 ∉ s ∧ 32 ∉ s ∧ s ≠ []
theorem check_parts {k : Pk} {p : Pj} (h : checkE k p = 0) : headE k p = 0 ∧ varsE k [] p.vs = 0 ∧ flagsE k [] p.fs = 0 ∧ targetsE k [] p.ts = 0 ∧ p.vs.length ≤ 32 ∧ p.fs.length ≤ 32 ∧ p.ts.length ≤ 8 ∧ p.ts ≠ [] := by
  unfold checkE at h
  split at h
  · rename_i h1; exact absurd h h1
  rename_i h1
  split at h
  · rename_i h2; exact absurd h h2
  rename_i h2
  split at h
  · rename_i h3; exact absurd h h3
  rename_i h3
  simp only [Decidable.not_not] at h1 h2 h3
  unfold varsT at h2
  unfold flagsT at h3
  unfold targetsT at h
  split at h2
  · cases h2
  split at h3
  · cases h3
  split at h
  · cases h
  split at h
  · cases h
  rename_i a b c d
  exact ⟨h1, h2, h3, h, by omega, by omega, by omega, d⟩
theorem kind_cases {t : Tg} (h : kindE t = 0) : (t.kd = kPages ∧ 5 ≤ t.pg ∧ t.pg ≤ 1000 ∧ 500 ≤ t.wd ∧ t.wd ≤ 100000) ∨ (t.kd ≠ kPages ∧ (t.kd = kHtml ∨ t.kd = kBook ∨ t.kd = kSlides) ∧ t.pg = 0 ∧ t.wd = 0) := by
  unfold kindE at h
  split at h
  · rename_i h1
    split at h
    · cases h
    · rename_i h2; exact .inl ⟨h1, by omega, by omega, by omega, by omega⟩
  · rename_i h1
    split at h
    · rename_i h2
      split at h
      · cases h
      · rename_i h3; exact .inr ⟨h1, h2, by omega, by omega⟩
    · cases h
theorem dig_no {s : List UInt8} (h : s.all digB = true) {c : UInt8} (hc : digB c = false) : c ∉ s := fun hm => by
  have := List.all_eq_true.1 h c hm
  rw [hc] at this; cases this
theorem target_parse {t : Tg} (hn : 32 ∉ t.nm ∧ t.nm ≠ []) (h : kindE t = 0) : targetP ((targetL t).drop 7) = some t := by
  rcases kind_cases h with ⟨h1, h2, h3, h4, h5⟩ | ⟨h1, h2, h3, h4⟩
  · have e : (targetL t).drop 7 = t.nm ++ 32 :: (kPages ++ 32 :: (numS t.pg.toNat ++ 32 :: numS t.wd.toNat)) := by
      unfold targetL; rw [if_pos h1, h1]; simp
    obtain ⟨a1, a2, _⟩ := numS_spec t.pg.toNat
    obtain ⟨b1, b2, _⟩ := numS_spec t.wd.toNat
    have ew : wordsP ((targetL t).drop 7) = [t.nm, kPages, numS t.pg.toNat, numS t.wd.toNat] := by
      rw [e, wordsP_sp _ _ hn.1, wordsP_sp _ _ (by decide), wordsP_sp _ _ (dig_no a2 (by decide)), wordsP_no _ (dig_no b2 (by decide))]
    unfold targetP
    rw [ew, if_neg (by
      simp only [List.mem_cons, List.not_mem_nil, or_false, not_or]
      exact ⟨fun h => hn.2 h.symm, by decide, fun h => a1 h.symm, fun h => b1 h.symm⟩)]
    simp only [if_pos, numP_numS t.pg.toNat (by omega), numP_numS t.wd.toNat (by omega)]
    cases t with
    | mk n kd pg wd =>
      simp only at h1 h2 h3 h4 h5 ⊢
      subst h1
      rw [Int.toNat_of_nonneg (by omega), Int.toNat_of_nonneg (by omega)]
  · have e : (targetL t).drop 7 = t.nm ++ 32 :: t.kd := by
      unfold targetL; rw [if_neg h1]; simp
    have hk : 32 ∉ t.kd ∧ t.kd ≠ [] := by rcases h2 with h2 | h2 | h2 <;> rw [h2] <;> decide
    have ew : wordsP ((targetL t).drop 7) = [t.nm, t.kd] := by rw [e, wordsP_sp _ _ hn.1, wordsP_no _ hk.1]
    unfold targetP
    rw [ew, if_neg (by
      simp only [List.mem_cons, List.not_mem_nil, or_false, not_or]
      exact ⟨fun h => hn.2 h.symm, fun h => hk.2 h.symm⟩)]
    simp only [if_neg h1]
    cases t with
    | mk n kd pg wd => simp only at h3 h4 ⊢; rw [h3, h4]
theorem var_not_flag (s : List UInt8) : ([118, 97, 114, 32] : List UInt8).isPrefixOf ([102, 108, 97, 103, 32] ++ s) = false ∧ ([118, 97, 114, 32] : List UInt8).isPrefixOf ([116, 97, 114, 103, 101, 116, 32] ++ s) = false ∧ ([102, 108, 97, 103, 32] : List UInt8).isPrefixOf ([116, 97, 114, 103, 101, 116, 32] ++ s) = false :=
  ⟨rfl, rfl, rfl⟩
theorem tail_vars {k : Pk} (ok : PkOk k) : ∀ (vs : List (List UInt8 × List UInt8)) (p : Pj) (i : Nat) (r : List (List UInt8)), (∀ v ∈ vs, k.nm v.1 = true) →
    tailP p 0 i (vs.map (fun v => setL ([118, 97, 114, 32] ++ v.1) v.2) ++ r) = tailP { p with vs := p.vs ++ vs } 0 (i + vs.length) r := by
  intro vs
  induction vs with
  | nil => intro p i r _; simp
  | cons v vs ih =>
    intro p i r h
    have hv := ok.nm v.1 (h v (List.mem_cons_self ..))
    have e : setL ([118, 97, 114, 32] ++ v.1) v.2 = [118, 97, 114, 32] ++ (v.1 ++ eqTail v.2) := by unfold setL; rw [List.append_assoc]
    have hm : moreP p (setL ([118, 97, 114, 32] ++ v.1) v.2) 0 = some ({ p with vs := p.vs ++ [v] }, 0) := by
      unfold moreP
      rw [e, if_pos ⟨pre_app _ _, rfl⟩]
      have e4 : ([118, 97, 114, 32] ++ (v.1 ++ eqTail v.2)).drop 4 = v.1 ++ eqTail v.2 := rfl
      rw [e4, varP_key _ _ _ hv.2.1]
      simp
    rw [List.map_cons, List.cons_append, tailP, hm]
    show tailP { p with vs := p.vs ++ [v] } 0 (i + 1) _ = _
    rw [ih _ _ _ (fun x hx => h x (List.mem_cons_of_mem _ hx))]
    simp only [List.append_assoc, List.singleton_append, List.length_cons]
    congr 1
    omega
theorem tail_flags {k : Pk} (ok : PkOk k) : ∀ (fs : List (List UInt8)) (p : Pj) (st i : Nat) (r : List (List UInt8)), st ≤ 1 → (∀ v ∈ fs, k.nm v = true) →
    ∃ st', st' ≤ 1 ∧ tailP p st i (fs.map (fun f => [102, 108, 97, 103, 32] ++ f) ++ r) = tailP { p with fs := p.fs ++ fs } st' (i + fs.length) r := by
  intro fs
  induction fs with
  | nil => intro p st i r hs _; exact ⟨st, hs, by simp⟩
  | cons v fs ih =>
    intro p st i r hs h
    have hv := ok.nm v (h v (List.mem_cons_self ..))
    have hm : moreP p ([102, 108, 97, 103, 32] ++ v) st = some ({ p with fs := p.fs ++ [v] }, 1) := by
      unfold moreP
      rw [if_neg (by rw [(var_not_flag v).1]; simp), if_pos ⟨pre_app _ _, hs⟩]
      have e4 : ([102, 108, 97, 103, 32] ++ v).drop 5 = v := rfl
      rw [e4, if_pos ⟨hv.2.2, hv.2.1⟩]
    obtain ⟨st', h1, h2⟩ := ih { p with fs := p.fs ++ [v] } 1 (i + 1) r (by omega) (fun x hx => h x (List.mem_cons_of_mem _ hx))
    refine ⟨st', h1, ?_⟩
    rw [List.map_cons, List.cons_append, tailP, hm]
    show tailP { p with fs := p.fs ++ [v] } 1 (i + 1) _ = _
    rw [h2]
    simp only [List.append_assoc, List.singleton_append, List.length_cons]
    congr 1
    omega
theorem tail_targets {k : Pk} (ok : PkOk k) : ∀ (ts : List Tg) (p : Pj) (st i : Nat), (∀ t ∈ ts, k.nm t.nm = true ∧ kindE t = 0) →
    tailP p st i (ts.map targetL) = .ok { p with ts := p.ts ++ ts } := by
  intro ts
  induction ts with
  | nil => intro p st i _; simp [tailP]
  | cons t ts ih =>
    intro p st i h
    obtain ⟨hn, hk⟩ := h t (List.mem_cons_self ..)
    have hv := ok.nm t.nm hn
    have hp := target_parse ⟨hv.2.1, hv.2.2⟩ hk
    have e : targetL t = [116, 97, 114, 103, 101, 116, 32] ++ (targetL t).drop 7 := by
      have : targetL t = [116, 97, 114, 103, 101, 116, 32] ++ (t.nm ++ [32] ++ t.kd ++ (if t.kd = kPages then [32] ++ numS t.pg.toNat ++ [32] ++ numS t.wd.toNat else [])) := by
        unfold targetL; simp
      rw [this]; rfl
    have hm : moreP p (targetL t) st = some ({ p with ts := p.ts ++ [t] }, 2) := by
      rw [e]
      unfold moreP
      rw [if_neg (by rw [(var_not_flag _).2.1]; simp), if_neg (by rw [(var_not_flag _).2.2]; simp), if_pos (pre_app _ _)]
      have e4 : ([116, 97, 114, 103, 101, 116, 32] ++ (targetL t).drop 7).drop 7 = (targetL t).drop 7 := rfl
      rw [e4, hp]
      rfl
    rw [List.map_cons, tailP, hm]
    show tailP { p with ts := p.ts ++ [t] } 2 (i + 1) _ = _
    rw [ih _ _ _ (fun x hx => h x (List.mem_cons_of_mem _ hx))]
    simp
/-- a valid project is read back from its lines -/
theorem parse_back {k : Pk} (ok : PkOk k) {p : Pj} (h : checkE k p = 0) : parseL k (linesP p) = (p, 0, 0) := by
  obtain ⟨h1, h2, h3, h4, _⟩ := check_parts h
  have hh := head_parse k heads [p.ti, p.la, p.ma, p.so, p.st] (bodyL p) [] 0 rfl
  rw [List.nil_append] at hh
  unfold parseL
  rw [linesP_eq, hh]
  have e : pjOf [p.ti, p.la, p.ma, p.so, p.st] = ⟨p.ti, p.la, p.ma, p.so, p.st, [], [], []⟩ := rfl
  simp only [e]
  unfold bodyL
  rw [List.append_assoc, tail_vars ok _ _ _ _ (fun v hv => (varsE_mem _ _ h2 v hv).1)]
  obtain ⟨st', _, h5⟩ := tail_flags ok p.fs { (⟨p.ti, p.la, p.ma, p.so, p.st, [], [], []⟩ : Pj) with vs := [] ++ p.vs } 0 (5 + p.vs.length) (p.ts.map targetL) (by omega) (fun v hv => flagsE_mem _ _ h3 v hv)
  rw [h5, tail_targets ok _ _ _ _ (fun t ht => targetsE_mem _ _ h4 t ht)]
  simp only [List.nil_append]
  rw [if_neg (by simpa using h)]
/-- no line of a valid project has a line feed -/
theorem lines_no {k : Pk} (ok : PkOk k) {p : Pj} (h : checkE k p = 0) : ∀ l ∈ linesP p, 10 ∉ l := by
  obtain ⟨h1, h2, h3, h4, _⟩ := check_parts h
  have et : ∀ v : List UInt8, 10 ∉ v → 10 ∉ eqTail v := by
    intro v hv
    unfold eqTail
    split
    · decide
    · simp [hv]
  have es : ∀ n v : List UInt8, 10 ∉ n → 10 ∉ v → 10 ∉ setL n v := by
    intro n v hn hv
    unfold setL
    rw [List.mem_append]
    exact fun h => h.elim hn (et v hv)
  unfold headE at h1
  split at h1
  · cases h1
  rename_i a1
  split at h1
  · cases h1
  rename_i a2
  simp only [not_or, not_and, Bool.not_eq_false] at a1 a2
  have oe : ∀ s, (s ≠ [] → k.pa s = true) → 10 ∉ s := by
    intro s hs
    by_cases e : s = []
    · subst e; simp
    · exact ok.pa s (hs e)
  intro l hl
  unfold linesP at hl
  rw [List.mem_append, List.mem_append, List.mem_append] at hl
  rcases hl with ((hl | hl) | hl) | hl
  · simp only [List.mem_cons, List.not_mem_nil, or_false] at hl
    rcases hl with rfl | rfl | rfl | rfl | rfl
    · exact es _ _ (by decide) (ok.tr _ a1)
    · exact es _ _ (by decide) (ok.la _ a2.1)
    · exact es _ _ (by decide) (ok.pa _ a2.2.1)
    · exact es _ _ (by decide) (oe _ a2.2.2.1)
    · exact es _ _ (by decide) (oe _ a2.2.2.2)
  · obtain ⟨v, hv, rfl⟩ := List.mem_map.1 hl
    obtain ⟨b1, b2⟩ := varsE_mem _ _ h2 v hv
    refine es _ _ ?_ (ok.tr _ b2)
    rw [List.mem_append]
    exact fun h => h.elim (by decide) (ok.nm _ b1).1
  · obtain ⟨v, hv, rfl⟩ := List.mem_map.1 hl
    rw [List.mem_append]
    exact fun h => h.elim (by decide) (ok.nm _ (flagsE_mem _ _ h3 v hv)).1
  · obtain ⟨t, ht, rfl⟩ := List.mem_map.1 hl
    obtain ⟨b1, b2⟩ := targetsE_mem _ _ h4 t ht
    have bn := (ok.nm _ b1).1
    have n1 := dig_no (numS_spec t.pg.toNat).2.1 (c := 10) (by decide)
    have n2 := dig_no (numS_spec t.wd.toNat).2.1 (c := 10) (by decide)
    unfold targetL
    rcases kind_cases b2 with ⟨c1, _⟩ | ⟨c1, c2, _⟩
    · rw [if_pos c1, c1]
      have : (10 : UInt8) ∉ kPages := by decide
      simp [bn, n1, n2, this]
    · rw [if_neg c1]
      have : (10 : UInt8) ∉ t.kd := by rcases c2 with c2 | c2 | c2 <;> rw [c2] <;> decide
      simp [bn, this]

end Go.Proofs.YtmkenekngaihhaaGreatDoor
