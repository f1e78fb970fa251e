/-
  Layer 33 (markup), plain: nodes, their markup, their first error, and the reader of markup, as functions on lists of bytes.
  Layer 33 (markup), plain: clean text escaped is clean; what is escaped is read back.
  Layer 33 (markup), plain: the markup of a valid node is read back; what is read has the bytes that were read as its markup; no proper beginning is read.
  Layer 33 (markup), plain: the laws of nodes: read back, exact, cut.
-/
namespace Go.Proofs.YtejjidbodfoiiaaGreatDoor
set_option linter.unusedVariables false
set_option linter.unusedSimpArgs false

/-- a node of markup: its name, its text, its attributes, its kids -/
inductive Nd where
  | mk (nm tx : List UInt8) (ats : List (List UInt8 × List UInt8)) (ks : List Nd)

theorem Nd.ind {P : Nd → Prop} (h : ∀ nm tx ats ks, (∀ k ∈ ks, P k) → P (.mk nm tx ats ks)) : ∀ n, P n := by
  intro n
  exact Nd.rec (motive_1 := P) (motive_2 := fun ks => ∀ k ∈ ks, P k) (fun nm tx ats ks hk => h nm tx ats ks hk) (fun k hk => by cases hk)
    (fun k r hk hr x hx => by
      rcases List.mem_cons.1 hx with rfl | hx
      · exact hk
      · exact hr x hx) n

def Nd.nm : Nd → List UInt8
  | .mk nm _ _ _ => nm
def Nd.tx : Nd → List UInt8
  | .mk _ tx _ _ => tx
def Nd.ats : Nd → List (List UInt8 × List UInt8)
  | .mk _ _ ats _ => ats
def Nd.ks : Nd → List Nd
  | .mk _ _ _ ks => ks

/-- a byte of names -/
def partB (c : UInt8) : Bool := (decide (97 ≤ c) && decide (c ≤ 122)) || (decide (48 ≤ c) && decide (c ≤ 57)) || c == 45 || c == 58
def lowB : List UInt8 → Bool
  | [] => false
  | c :: _ => decide (97 ≤ c) && decide (c ≤ 122)
def nameB (s : List UInt8) : Bool := s.all partB && (decide (s.length ≤ 60) && lowB s)
def emptyNames : List (List UInt8) := [[98, 114], [104, 114], [105, 109, 103], [108, 105, 110, 107], [109, 101, 116, 97]]
def emptyB (s : List UInt8) : Bool := emptyNames.contains s

/-- clean text -/
def cleanB (c : UInt8) : Bool := c == 10 || (decide (32 ≤ c) && c != 127)
def contB (x : UInt8) : Bool := decide (128 ≤ x) && decide (x ≤ 191)
def two (b x : UInt8) : Bool := decide (194 ≤ b) && decide (b ≤ 223) && contB x
def sndB (b x : UInt8) : Bool := contB x && (b != 224 || decide (160 ≤ x)) && (b != 237 || decide (x ≤ 159)) && (b != 240 || decide (144 ≤ x)) && (b != 244 || decide (x ≤ 143))
def thr (b x y : UInt8) : Bool := decide (224 ≤ b) && decide (b ≤ 239) && sndB b x && contB y
def fou (b x y z : UInt8) : Bool := decide (240 ≤ b) && decide (b ≤ 244) && sndB b x && contB y && contB z
def validB : List UInt8 → Bool
  | [] => true
  | [b] => decide (b < 128) && cleanB b
  | [b, x] => if b < 128 then cleanB b && validB [x] else two b x
  | [b, x, y] => if b < 128 then cleanB b && validB [x, y] else if two b x then validB [y] else thr b x y
  | b :: x :: y :: z :: r => if b < 128 then cleanB b && validB (x :: y :: z :: r) else if two b x then validB (y :: z :: r) else if thr b x y then validB (z :: r) else if fou b x y z then validB r else false

/-- a byte, escaped -/
def escB (c : UInt8) : List UInt8 :=
  if c = 38 then [38, 97, 109, 112, 59] else if c = 60 then [38, 108, 116, 59] else if c = 62 then [38, 103, 116, 59] else if c = 34 then [38, 113, 117, 111, 116, 59] else [c]
def esc (l : List UInt8) : List UInt8 := l.flatMap escB

/-- the first error of attributes behind those with the keys S -/
def chkAs (S : List (List UInt8)) : List (List UInt8 × List UInt8) → Int
  | [] => 0
  | p :: r => if nameB p.1 = false then 6 else if validB p.2 = false then 17 else if p.1 ∈ S then 7 else chkAs (S ++ [p.1]) r
mutual
/-- the first error of a node -/
def chk : Nd → Int
  | .mk nm tx ats ks =>
    if nm = [] then (if ats ≠ [] ∨ ks ≠ [] then 5 else if tx = [] ∨ validB tx = false then 17 else 0)
    else if nameB nm = false then 6
    else if tx ≠ [] ∨ (emptyB nm = true ∧ ks ≠ []) then 5
    else if chkAs [] ats ≠ 0 then chkAs [] ats
    else chkKs false ks
/-- the first error of kids; t: a text stands ahead -/
def chkKs (t : Bool) : List Nd → Int
  | [] => 0
  | k :: r => if t = true ∧ k.nm = [] then 5 else if chk k ≠ 0 then chk k else chkKs (decide (k.nm = [])) r
end

/-- the markup of attributes -/
def mkAs (ats : List (List UInt8 × List UInt8)) : List UInt8 := ats.flatMap fun p => [32] ++ p.1 ++ [61, 34] ++ esc p.2 ++ [34]
mutual
/-- the markup of a node -/
def mku : Nd → List UInt8
  | .mk nm tx ats ks => if nm = [] then esc tx else if emptyB nm = true then [60] ++ nm ++ mkAs ats ++ [47, 62] else [60] ++ nm ++ mkAs ats ++ [62] ++ mkuL ks ++ [60, 47] ++ nm ++ [62]
def mkuL : List Nd → List UInt8
  | [] => []
  | k :: r => mku k ++ mkuL r
end
def valAs (key : List UInt8) (ats : List (List UInt8 × List UInt8)) : List (List UInt8) := (ats.filter fun p => p.1 == key).map (·.2)
mutual
/-- the values of an attribute -/
def vals (key : List UInt8) : Nd → List (List UInt8)
  | .mk nm tx ats ks => if nm = [] then [] else valAs key ats ++ valsL key ks
def valsL (key : List UInt8) : List Nd → List (List UInt8)
  | [] => []
  | k :: r => vals key k ++ valsL key r
end

/-- the reader: names -/
def pName (l : List UInt8) : Except Int (List UInt8 × List UInt8) :=
  if l.dropWhile partB = [] then .error 4 else if nameB (l.takeWhile partB) = false then .error 5 else .ok (l.takeWhile partB, l.dropWhile partB)
def pExp (t l : List UInt8) : Except Int (List UInt8) := if t <+: l then .ok (l.drop t.length) else if l <+: t then .error 4 else .error 5
/-- what a text that begins with & begins with -/
def repl (l : List UInt8) : Nat × UInt8 :=
  if [38, 97, 109, 112, 59] <+: l then (5, 38) else if [38, 108, 116, 59] <+: l then (4, 60) else if [38, 103, 116, 59] <+: l then (4, 62) else if [38, 113, 117, 111, 116, 59] <+: l then (6, 34) else (0, 0)
def unescF : Nat → List UInt8 → Option (List UInt8)
  | 0, _ => some []
  | _ + 1, [] => some []
  | k + 1, c :: r => if c = 60 ∨ c = 62 ∨ c = 34 then none else if c = 38 then (if (repl (c :: r)).1 = 0 then none else (unescF k ((c :: r).drop (repl (c :: r)).1)).map ((repl (c :: r)).2 :: ·)) else (unescF k r).map (c :: ·)
def unesc (l : List UInt8) : Option (List UInt8) := unescF l.length l
/-- clean text that is escaped -/
def pText (v : List UInt8) : Except Int (List UInt8) := if validB v = false then .error 17 else match unesc v with | none => .error 5 | some u => .ok u
def notQ (c : UInt8) : Bool := c != 34
def notL (c : UInt8) : Bool := c != 60
def pVal (l : List UInt8) : Except Int (List UInt8 × List UInt8) :=
  if l.dropWhile notQ = [] then .error 4 else match pText (l.takeWhile notQ) with | .error e => .error e | .ok u => .ok (u, (l.dropWhile notQ).drop 1)
/-- an attribute, behind the space -/
def pAttr (l : List UInt8) : Except Int ((List UInt8 × List UInt8) × List UInt8) :=
  match pName l with
  | .error e => .error e
  | .ok (k, r) => match pExp [61, 34] r with
    | .error e => .error e
    | .ok r1 => match pVal r1 with
      | .error e => .error e
      | .ok (u, r2) => .ok ((k, u), r2)
/-- attributes behind those with the keys S -/
def pAttrs : Nat → List (List UInt8) → List UInt8 → Except Int (List (List UInt8 × List UInt8) × List UInt8)
  | 0, _, l => .error 99
  | f + 1, S, l => if l.head? = some 32 then (match pAttr (l.drop 1) with
      | .error e => .error e
      | .ok (p, r) => if p.1 ∈ S then .error 7 else match pAttrs f (S ++ [p.1]) r with
        | .error e => .error e
        | .ok (ats, r') => .ok (p :: ats, r'))
    else .ok ([], l)
def pData (kid : Bool) (l : List UInt8) : Except Int (Nd × List UInt8) :=
  if l.dropWhile notL = [] ∧ kid = true then .error 4 else match pText (l.takeWhile notL) with | .error e => .error e | .ok u => .ok (.mk [] u [] [], l.dropWhile notL)
mutual
/-- a node -/
def pN : Nat → Bool → List UInt8 → Except Int (Nd × List UInt8)
  | 0, _, _ => .error 99
  | f + 1, kid, l => if l.head? = some 60 then (match pName (l.drop 1) with
      | .error e => .error e
      | .ok (nm, r1) => match pAttrs (r1.length + 1) [] r1 with
        | .error e => .error e
        | .ok (ats, r2) => if emptyB nm = true then (match pExp [47, 62] r2 with
            | .error e => .error e
            | .ok r3 => .ok (.mk nm [] ats [], r3))
          else match pExp [62] r2 with
          | .error e => .error e
          | .ok r3 => match pKs f r3 with
            | .error e => .error e
            | .ok (ks, r4) => match pExp ([60, 47] ++ nm ++ [62]) r4 with
              | .error e => .error e
              | .ok r5 => .ok (.mk nm [] ats ks, r5))
    else pData kid l
/-- kids -/
def pKs : Nat → List UInt8 → Except Int (List Nd × List UInt8)
  | 0, _ => .error 99
  | f + 1, l => if [60, 47] <+: l then .ok ([], l) else if l = [] then .error 4 else match pN f true l with
    | .error e => .error e
    | .ok (k, r) => match pKs f r with
      | .error e => .error e
      | .ok (ks, r') => .ok (k :: ks, r')
end
/-- Parse -/
def pTop (l : List UInt8) : Except Int (Nd × List UInt8) := if l = [] then .error 4 else pN (2 * l.length + 1) false l
end Go.Proofs.YtejjidbodfoiiaaGreatDoor
namespace Go.Proofs.YtejjidbodfoiiaaGreatDoor
set_option linter.unusedVariables false
set_option linter.unusedSimpArgs false

theorem validB_cons (b : UInt8) (r : List UInt8) : validB (b :: r) = if b < 128 then cleanB b && validB r else match r with
    | [] => false
    | x :: r1 => if two b x then validB r1 else match r1 with
      | [] => false
      | y :: r2 => if thr b x y then validB r2 else match r2 with
        | [] => false
        | z :: r3 => if fou b x y z then validB r3 else false := by
  rcases r with _ | ⟨x, _ | ⟨y, _ | ⟨z, r⟩⟩⟩
  · by_cases h : b < 128 <;> simp [validB, h]
  · by_cases h : b < 128 <;> simp [validB, h]
  · by_cases h : b < 128 <;> by_cases h2 : two b x = true <;> simp [validB, h, h2]
  · by_cases h : b < 128 <;> by_cases h2 : two b x = true <;> by_cases h3 : thr b x y = true <;> simp [validB, h, h2, h3]
/-- the number of bytes of the sequence that a text begins with, or 0 -/
def sq : List UInt8 → Nat
  | [] => 0
  | b :: r => if b < 128 then 1 else match r with
    | [] => 0
    | x :: r1 => if two b x then 2 else match r1 with
      | [] => 0
      | y :: r2 => if thr b x y then 3 else match r2 with
        | [] => 0
        | z :: r3 => if fou b x y z then 4 else 0
theorem validB_sq (b : UInt8) (r : List UInt8) (h : ¬ b < 128) : validB (b :: r) = if sq (b :: r) = 0 then false else validB ((b :: r).drop (sq (b :: r))) := by
  rw [validB_cons, if_neg h]
  rcases r with _ | ⟨x, _ | ⟨y, _ | ⟨z, r⟩⟩⟩ <;> simp only [sq, h, if_false]
  · simp
  · by_cases h2 : two b x = true <;> simp [h2]
  · by_cases h2 : two b x = true
    · simp [h2]
    · by_cases h3 : thr b x y = true <;> simp [h2, h3]
  · by_cases h2 : two b x = true
    · simp [h2]
    · by_cases h3 : thr b x y = true
      · simp [h2, h3]
      · by_cases h4 : fou b x y z = true <;> simp [h2, h3, h4]
theorem sq_le (l : List UInt8) : sq l ≤ l.length := by
  rcases l with _ | ⟨b, _ | ⟨x, _ | ⟨y, _ | ⟨z, r⟩⟩⟩⟩ <;> simp only [sq, List.length] <;> repeat (first | omega | split)

theorem cont_big {x : UInt8} (h : contB x = true) : ¬ x < 128 := by
  simp only [contB, Bool.and_eq_true, decide_eq_true_eq, UInt8.le_iff_toNat_le] at h
  rw [UInt8.lt_iff_toNat_lt]
  have : (128 : UInt8).toNat = 128 := rfl
  omega
theorem two_cont {b x : UInt8} (h : two b x = true) : contB x = true := by simp only [two, Bool.and_eq_true] at h; exact h.2
theorem snd_cont {b x : UInt8} (h : sndB b x = true) : contB x = true := by simp only [sndB, Bool.and_eq_true] at h; exact h.1.1.1.1
theorem thr_cont {b x y : UInt8} (h : thr b x y = true) : contB x = true ∧ contB y = true := by simp only [thr, Bool.and_eq_true] at h; exact ⟨snd_cont h.1.2, h.2⟩
theorem fou_cont {b x y z : UInt8} (h : fou b x y z = true) : contB x = true ∧ contB y = true ∧ contB z = true := by simp only [fou, Bool.and_eq_true] at h; exact ⟨snd_cont h.1.1.2, h.1.2, h.2⟩
theorem escB_big {c : UInt8} (h : ¬ c < 128) : escB c = [c] := by
  unfold escB
  rw [if_neg, if_neg, if_neg, if_neg] <;> (rintro rfl; exact h (by decide))
/-- a byte that is escaped begins with a small byte -/
theorem escB_small {c : UInt8} (h : c < 128) : ∃ d r, escB c = d :: r ∧ d < 128 := by
  unfold escB
  split
  · exact ⟨_, _, rfl, by decide⟩
  · split
    · exact ⟨_, _, rfl, by decide⟩
    · split
      · exact ⟨_, _, rfl, by decide⟩
      · split
        · exact ⟨_, _, rfl, by decide⟩
        · exact ⟨_, _, rfl, h⟩
theorem esc_cons (c : UInt8) (l : List UInt8) : esc (c :: l) = escB c ++ esc l := by simp [esc]
theorem esc_append (a b : List UInt8) : esc (a ++ b) = esc a ++ esc b := by simp [esc]
theorem validB_escB (c : UInt8) (h : c < 128) (l : List UInt8) : validB (escB c ++ l) = (cleanB c && validB l) := by
  unfold escB
  split
  · rename_i e; subst e; simp [validB_cons, cleanB]
  · split
    · rename_i e; subst e; simp [validB_cons, cleanB]
    · split
      · rename_i e; subst e; simp [validB_cons, cleanB]
      · split
        · rename_i e; subst e; simp [validB_cons, cleanB]
        · show validB (c :: l) = _
          rw [validB_cons, if_pos h]
theorem two_small {b x : UInt8} (h : x < 128) : two b x = false := by
  cases e : two b x
  · rfl
  · exact absurd h (cont_big (two_cont e))
theorem thr_small {b x y : UInt8} (h : x < 128 ∨ y < 128) : thr b x y = false := by
  cases e : thr b x y
  · rfl
  · rcases h with h | h
    · exact absurd h (cont_big (thr_cont e).1)
    · exact absurd h (cont_big (thr_cont e).2)
theorem fou_small {b x y z : UInt8} (h : x < 128 ∨ y < 128 ∨ z < 128) : fou b x y z = false := by
  cases e : fou b x y z
  · rfl
  · rcases h with h | h | h
    · exact absurd h (cont_big (fou_cont e).1)
    · exact absurd h (cont_big (fou_cont e).2.1)
    · exact absurd h (cont_big (fou_cont e).2.2)
/-- a sequence whose second byte is small is none -/
theorem valid_stop1 {b x : UInt8} {r : List UInt8} (hb : ¬ b < 128) (hx : x < 128) : validB (b :: x :: r) = false := by
  rw [validB_cons, if_neg hb]
  rcases r with _ | ⟨y, _ | ⟨z, r⟩⟩ <;> simp [two_small hx, thr_small (Or.inl hx), fou_small (Or.inl hx)]
theorem valid_stop2 {b x y : UInt8} {r : List UInt8} (hb : ¬ b < 128) (hx : two b x = false) (hy : y < 128) : validB (b :: x :: y :: r) = false := by
  rw [validB_cons, if_neg hb]
  rcases r with _ | ⟨z, r⟩ <;> simp [hx, thr_small (Or.inr hy), fou_small (Or.inr (Or.inl hy))]
theorem valid_stop3 {b x y z : UInt8} {r : List UInt8} (hb : ¬ b < 128) (hx : two b x = false) (hy : thr b x y = false) (hz : z < 128) : validB (b :: x :: y :: z :: r) = false := by
  rw [validB_cons, if_neg hb]
  simp [hx, hy, fou_small (Or.inr (Or.inr hz))]
theorem esc_small {c : UInt8} (h : c < 128) (l : List UInt8) : ∃ d r, esc (c :: l) = d :: r ∧ d < 128 := by
  obtain ⟨d, r, e, hd⟩ := escB_small h
  exact ⟨d, r ++ esc l, by rw [esc_cons, e]; rfl, hd⟩
theorem esc_big {c : UInt8} (h : ¬ c < 128) (l : List UInt8) : esc (c :: l) = c :: esc l := by rw [esc_cons, escB_big h]; rfl
theorem valid_esc_n : ∀ n, ∀ l : List UInt8, l.length ≤ n → validB (esc l) = validB l := by
  intro n
  induction n with
  | zero =>
    intro l hl
    cases l with
    | nil => rfl
    | cons c r => simp at hl
  | succ n ih =>
    intro l hl
    rcases l with _ | ⟨b, r⟩
    · rfl
    by_cases hb : b < 128
    · rw [esc_cons, validB_escB b hb, validB_cons, if_pos hb, ih r (by simpa using hl)]
    · rw [esc_big hb]
      rcases r with _ | ⟨x, r1⟩
      · rfl
      by_cases hx : x < 128
      · obtain ⟨d, q, e, hd⟩ := esc_small hx r1
        rw [e, valid_stop1 hb hd, valid_stop1 hb hx]
      · rw [esc_big hx]
        by_cases h2 : two b x = true
        · rw [validB_cons, if_neg hb, validB_cons b, if_neg hb]
          simp only [h2, if_true]
          exact ih r1 (by simp at hl; omega)
        · have h2' : two b x = false := by simpa using h2
          rcases r1 with _ | ⟨y, r2⟩
          · rfl
          by_cases hy : y < 128
          · obtain ⟨d, q, e, hd⟩ := esc_small hy r2
            rw [e, valid_stop2 hb h2' hd, valid_stop2 hb h2' hy]
          · rw [esc_big hy]
            by_cases h3 : thr b x y = true
            · rw [validB_cons, if_neg hb, validB_cons b, if_neg hb]
              simp only [h2', h3, if_true]
              exact ih r2 (by simp at hl; omega)
            · have h3' : thr b x y = false := by simpa using h3
              rcases r2 with _ | ⟨z, r3⟩
              · rfl
              by_cases hz : z < 128
              · obtain ⟨d, q, e, hd⟩ := esc_small hz r3
                rw [e, valid_stop3 hb h2' h3' hd, valid_stop3 hb h2' h3' hz]
              · rw [esc_big hz, validB_cons, if_neg hb, validB_cons b, if_neg hb]
                simp only [h2', h3']
                by_cases h4 : fou b x y z = true
                · simp only [h4, if_true]
                  exact ih r3 (by simp at hl; omega)
                · simp [h4]
theorem valid_esc (l : List UInt8) : validB (esc l) = validB l := valid_esc_n _ l (Nat.le_refl _)

theorem escB_len (c : UInt8) : 1 ≤ (escB c).length := by
  unfold escB
  repeat (first | split | decide | simp)
theorem esc_len (l : List UInt8) : l.length ≤ (esc l).length := by
  induction l with
  | nil => simp [esc]
  | cons c r ih => rw [esc_cons, List.length_append]; have := escB_len c; simp; omega
theorem escB_len6 (c : UInt8) : (escB c).length ≤ 6 := by
  unfold escB
  repeat (first | split | decide | simp)
theorem esc_len6 (l : List UInt8) : (esc l).length ≤ 6 * l.length := by
  induction l with
  | nil => simp [esc]
  | cons c r ih => rw [esc_cons, List.length_append]; have := escB_len6 c; simp; omega
theorem esc_clean (l : List UInt8) : ∀ c ∈ esc l, c ≠ 60 ∧ c ≠ 62 ∧ c ≠ 34 := by
  induction l with
  | nil => intro c hc; cases hc
  | cons d r ih =>
    intro c hc
    rw [esc_cons, List.mem_append] at hc
    rcases hc with hc | hc
    · unfold escB at hc
      split at hc
      · simp at hc; rcases hc with rfl | rfl | rfl | rfl | rfl <;> decide
      · split at hc
        · simp at hc; rcases hc with rfl | rfl | rfl | rfl <;> decide
        · split at hc
          · simp at hc; rcases hc with rfl | rfl | rfl | rfl <;> decide
          · split at hc
            · simp at hc; rcases hc with rfl | rfl | rfl | rfl | rfl | rfl <;> decide
            · simp at hc; subst hc; exact ⟨by assumption, by assumption, by assumption⟩
    · exact ih c hc
/-- the four replacements -/
theorem repl_esc {c : UInt8} (h : c = 38 ∨ c = 60 ∨ c = 62 ∨ c = 34) (l : List UInt8) : repl (escB c ++ l) = ((escB c).length, c) ∧ ∃ r, escB c = 38 :: r := by
  rcases h with rfl | rfl | rfl | rfl <;> exact ⟨by simp [repl, escB, List.cons_prefix_cons], _, rfl⟩
theorem repl_some {l : List UInt8} (h : (repl l).1 ≠ 0) : ∃ r, l = escB (repl l).2 ++ r ∧ (repl l).1 = (escB (repl l).2).length := by
  unfold repl at *
  split
  · rename_i e; obtain ⟨r, rfl⟩ := e; exact ⟨r, rfl, rfl⟩
  · split
    · rename_i e; obtain ⟨r, rfl⟩ := e; exact ⟨r, rfl, rfl⟩
    · split
      · rename_i e; obtain ⟨r, rfl⟩ := e; exact ⟨r, rfl, rfl⟩
      · split
        · rename_i e; obtain ⟨r, rfl⟩ := e; exact ⟨r, rfl, rfl⟩
        · simp_all
theorem unescF_esc : ∀ (l : List UInt8) (k : Nat), (esc l).length ≤ k → unescF k (esc l) = some l := by
  intro l
  induction l with
  | nil => intro k _; cases k <;> rfl
  | cons c r ih =>
    intro k hk
    rw [esc_cons] at hk ⊢
    rw [List.length_append] at hk
    by_cases h : c = 38 ∨ c = 60 ∨ c = 62 ∨ c = 34
    · obtain ⟨e, q, hq⟩ := repl_esc h (esc r)
      rw [hq] at e hk ⊢
      cases k with
      | zero => simp at hk
      | succ k =>
        rw [List.cons_append] at e ⊢
        rw [unescF, if_neg (by decide), if_pos rfl, e]
        simp only [List.length_cons, Nat.succ_ne_zero, if_false]
        have : List.drop (q.length + 1) (38 :: (q ++ esc r)) = esc r := by simp
        rw [this, ih k (by simp at hk; omega)]
        rfl
    · have hE : escB c = [c] := by
        unfold escB
        rw [if_neg (fun e => h (.inl e)), if_neg (fun e => h (.inr (.inl e))), if_neg (fun e => h (.inr (.inr (.inl e)))), if_neg (fun e => h (.inr (.inr (.inr e))))]
      rw [hE] at hk ⊢
      cases k with
      | zero => simp at hk
      | succ k =>
        show unescF (k + 1) (c :: esc r) = _
        rw [unescF, if_neg (fun e => h (.inr (by rcases e with e | e | e; exact .inl e; exact .inr (.inl e); exact .inr (.inr e)))), if_neg (fun e => h (.inl e)), ih k (by simp at hk; omega)]
        rfl
theorem unesc_esc (l : List UInt8) : unesc (esc l) = some l := unescF_esc l _ (Nat.le_refl _)
theorem esc_unescF : ∀ (k : Nat) (v u : List UInt8), v.length ≤ k → unescF k v = some u → esc u = v := by
  intro k
  induction k with
  | zero =>
    intro v u hv h
    cases v with
    | nil => simp [unescF] at h; subst h; rfl
    | cons c r => simp at hv
  | succ k ih =>
    intro v u hv h
    cases v with
    | nil => simp [unescF] at h; subst h; rfl
    | cons c r =>
      rw [unescF] at h
      by_cases h1 : c = 60 ∨ c = 62 ∨ c = 34
      · rw [if_pos h1] at h; cases h
      · rw [if_neg h1] at h
        by_cases h2 : c = 38
        · rw [if_pos h2] at h
          by_cases h3 : (repl (c :: r)).1 = 0
          · rw [if_pos h3] at h; cases h
          · rw [if_neg h3] at h
            obtain ⟨q, e1, e2⟩ := repl_some h3
            generalize hg : (repl (c :: r)).2 = d at *
            rw [e2, e1, List.drop_left] at h
            cases hq : unescF k q with
            | none => rw [hq] at h; cases h
            | some u' =>
              rw [hq] at h
              injection h with h
              subst h
              have hl : q.length ≤ k := by
                have := congrArg List.length e1
                have := escB_len d
                simp at this hv
                simp [List.length_append] at *
                omega
              rw [esc_cons, ih q u' hl hq, e1]
        · rw [if_neg h2] at h
          cases hq : unescF k r with
          | none => rw [hq] at h; cases h
          | some u' =>
            rw [hq] at h
            injection h with h
            subst h
            have hE : escB c = [c] := by
              unfold escB
              rw [if_neg h2, if_neg (fun e => h1 (.inl e)), if_neg (fun e => h1 (.inr (.inl e))), if_neg (fun e => h1 (.inr (.inr e)))]
            rw [esc_cons, hE, ih r u' (by simpa using hv) hq]
            rfl
theorem esc_unesc {v u : List UInt8} (h : unesc v = some u) : esc u = v := esc_unescF _ v u (Nat.le_refl _) h
end Go.Proofs.YtejjidbodfoiiaaGreatDoor
namespace Go.Proofs.YtejjidbodfoiiaaGreatDoor
set_option linter.unusedVariables false
set_option linter.unusedSimpArgs false

theorem span_stop (p : UInt8 → Bool) (a r : List UInt8) (ha : ∀ c ∈ a, p c = true) (hr : ∀ c, r.head? = some c → p c = false) : (a ++ r).takeWhile p = a ∧ (a ++ r).dropWhile p = r := by
  induction a with
  | nil =>
    cases r with
    | nil => exact ⟨rfl, rfl⟩
    | cons c q => have := hr c rfl; simp [this]
  | cons c q ih =>
    have h1 := ha c (List.mem_cons_self ..)
    have := ih (fun d hd => ha d (List.mem_cons_of_mem _ hd))
    simp [h1, this.1, this.2]
theorem span_head (p : UInt8 → Bool) (l : List UInt8) (c : UInt8) (h : (l.dropWhile p).head? = some c) : p c = false := by
  induction l with
  | nil => cases h
  | cons d r ih =>
    rw [List.dropWhile_cons] at h
    split at h
    · exact ih h
    · rename_i hd; simp at h; subst h; simpa using hd
theorem span_all (p : UInt8 → Bool) (l : List UInt8) : ∀ c ∈ l.takeWhile p, p c = true := by
  induction l with
  | nil => intro c hc; cases hc
  | cons d r ih =>
    intro c hc
    rw [List.takeWhile_cons] at hc
    split at hc
    · rcases List.mem_cons.1 hc with rfl | hc
      · assumption
      · exact ih c hc
    · cases hc
theorem name_parts {s : List UInt8} (h : nameB s = true) : (∀ c ∈ s, partB c = true) ∧ s ≠ [] ∧ s.length ≤ 60 := by
  simp only [nameB, Bool.and_eq_true, List.all_eq_true, decide_eq_true_eq] at h
  refine ⟨h.1, ?_, h.2.1⟩
  rintro rfl
  simp [lowB] at h
theorem pName_ok {nm r : List UInt8} (h : nameB nm = true) (hr : ∀ c, r.head? = some c → partB c = false) (hne : r ≠ []) : pName (nm ++ r) = .ok (nm, r) := by
  obtain ⟨e1, e2⟩ := span_stop partB nm r (name_parts h).1 hr
  unfold pName
  rw [e1, e2, if_neg hne, if_neg (by simp [h])]
theorem pName_some {l nm r : List UInt8} (h : pName l = .ok (nm, r)) : nameB nm = true ∧ nm ++ r = l ∧ r ≠ [] := by
  unfold pName at h
  split at h
  · cases h
  · split at h
    · cases h
    · rename_i h1 h2
      injection h with h
      injection h with ha hb
      subst ha hb
      exact ⟨by simpa using h2, List.takeWhile_append_dropWhile, h1⟩
theorem pExp_ok (t r : List UInt8) : pExp t (t ++ r) = .ok r := by
  unfold pExp
  rw [if_pos (List.prefix_append t r), List.drop_left]
theorem pExp_some {t l r : List UInt8} (h : pExp t l = .ok r) : t ++ r = l := by
  unfold pExp at h
  split at h
  · rename_i hp
    injection h with h
    obtain ⟨q, rfl⟩ := hp
    rw [List.drop_left] at h
    rw [h]
  · split at h <;> cases h
theorem pText_ok {u : List UInt8} (h : validB u = true) : pText (esc u) = .ok u := by
  unfold pText
  rw [valid_esc, h, if_neg (by decide), unesc_esc]
theorem pText_some {v u : List UInt8} (h : pText v = .ok u) : esc u = v ∧ validB u = true := by
  unfold pText at h
  split at h
  · cases h
  · rename_i hv
    have hv : validB v = true := by simpa using hv
    cases hu : unesc v with
    | none => rw [hu] at h; cases h
    | some x =>
      rw [hu] at h
      injection h with h
      subst h
      have he := esc_unesc hu
      refine ⟨he, ?_⟩
      rw [← valid_esc, he]; exact hv
theorem notQ_esc (u : List UInt8) : ∀ c ∈ esc u, notQ c = true := fun c hc => by have := (esc_clean u c hc).2.2; simp [notQ, this]
theorem notL_esc (u : List UInt8) : ∀ c ∈ esc u, notL c = true := fun c hc => by have := (esc_clean u c hc).1; simp [notL, this]
theorem pVal_ok {u r : List UInt8} (h : validB u = true) : pVal (esc u ++ 34 :: r) = .ok (u, r) := by
  obtain ⟨e1, e2⟩ := span_stop notQ (esc u) (34 :: r) (notQ_esc u) (fun c hc => by simp at hc; subst hc; rfl)
  unfold pVal
  rw [e1, e2, if_neg (by simp), pText_ok h]
  rfl
theorem pVal_some {l u r : List UInt8} (h : pVal l = .ok (u, r)) : esc u ++ 34 :: r = l ∧ validB u = true := by
  unfold pVal at h
  split at h
  · cases h
  · rename_i hd
    cases ht : pText (l.takeWhile notQ) with
    | error e => rw [ht] at h; cases h
    | ok x =>
      rw [ht] at h
      injection h with h
      injection h with h1 h2
      subst h1
      obtain ⟨e1, e2⟩ := pText_some ht
      refine ⟨?_, e2⟩
      rw [e1, ← h2]
      cases hh : l.dropWhile notQ with
      | nil => exact absurd hh hd
      | cons c q =>
        have := span_head notQ l c (by rw [hh]; rfl)
        have hc : c = 34 := by simpa [notQ] using this
        subst hc
        have := @List.takeWhile_append_dropWhile _ notQ l
        rw [hh] at this
        exact this
/-- the markup of one attribute, behind its space -/
def mkA (p : List UInt8 × List UInt8) : List UInt8 := p.1 ++ ([61, 34] ++ (esc p.2 ++ [34]))
theorem mkAs_cons (p : List UInt8 × List UInt8) (ats : List (List UInt8 × List UInt8)) : mkAs (p :: ats) = 32 :: (mkA p ++ mkAs ats) := by simp [mkAs, mkA]
theorem pAttr_ok {p : List UInt8 × List UInt8} {r : List UInt8} (h1 : nameB p.1 = true) (h2 : validB p.2 = true) : pAttr (mkA p ++ r) = .ok (p, r) := by
  unfold pAttr mkA
  rw [List.append_assoc, pName_ok h1 (fun c hc => by simp at hc; subst hc; decide) (by simp)]
  simp only [List.append_assoc]
  rw [pExp_ok]
  show (match pVal (esc p.2 ++ 34 :: r) with | .error e => _ | .ok (u, r2) => _) = _
  rw [pVal_ok h2]
theorem pAttr_some {p : List UInt8 × List UInt8} {l r : List UInt8} (h : pAttr l = .ok (p, r)) : nameB p.1 = true ∧ validB p.2 = true ∧ mkA p ++ r = l := by
  unfold pAttr at h
  cases h1 : pName l with
  | error e => rw [h1] at h; cases h
  | ok x =>
    obtain ⟨k, r0⟩ := x
    rw [h1] at h
    simp only at h
    cases h2 : pExp [61, 34] r0 with
    | error e => rw [h2] at h; cases h
    | ok r1 =>
      rw [h2] at h
      simp only at h
      cases h3 : pVal r1 with
      | error e => rw [h3] at h; cases h
      | ok y =>
        obtain ⟨u, r2⟩ := y
        rw [h3] at h
        injection h with h
        injection h with ha hb
        subst ha hb
        obtain ⟨a1, a2, _⟩ := pName_some h1
        obtain ⟨c1, c2⟩ := pVal_some h3
        refine ⟨a1, c2, ?_⟩
        rw [← a2, ← pExp_some h2, ← c1]
        simp [mkA]
theorem chkAs_cons {S : List (List UInt8)} {p : List UInt8 × List UInt8} {r : List (List UInt8 × List UInt8)} : chkAs S (p :: r) = 0 ↔ nameB p.1 = true ∧ validB p.2 = true ∧ p.1 ∉ S ∧ chkAs (S ++ [p.1]) r = 0 := by
  rw [chkAs]
  cases h1 : nameB p.1 <;> cases h2 : validB p.2 <;> by_cases h3 : p.1 ∈ S <;> simp [h3]
theorem pAttrs_ok : ∀ (ats : List (List UInt8 × List UInt8)) (f : Nat) (S : List (List UInt8)) (r : List UInt8), chkAs S ats = 0 → r.head? ≠ some 32 → ats.length < f → pAttrs f S (mkAs ats ++ r) = .ok (ats, r) := by
  intro ats
  induction ats with
  | nil =>
    intro f S r _ hr hf
    cases f with
    | zero => simp at hf
    | succ f => rw [show mkAs [] ++ r = r from rfl, pAttrs, if_neg hr]
  | cons p ats ih =>
    intro f S r h hr hf
    obtain ⟨h1, h2, h3, h4⟩ := chkAs_cons.1 h
    cases f with
    | zero => simp at hf
    | succ f =>
      rw [mkAs_cons, List.cons_append, pAttrs, if_pos (show List.head? ((32 : UInt8) :: _) = some 32 from rfl), List.drop_one, List.tail_cons, List.append_assoc, pAttr_ok h1 h2]
      simp only [h3, if_false]
      rw [ih f _ r h4 hr (by simpa using hf)]
theorem pAttrs_some : ∀ (f : Nat) (S : List (List UInt8)) (l : List UInt8) (ats : List (List UInt8 × List UInt8)) (r : List UInt8), pAttrs f S l = .ok (ats, r) → chkAs S ats = 0 ∧ mkAs ats ++ r = l ∧ r.head? ≠ some 32 := by
  intro f
  induction f with
  | zero => intro S l ats r h; cases h
  | succ f ih =>
    intro S l ats r h
    rw [pAttrs] at h
    by_cases h0 : l.head? = some 32
    · rw [if_pos h0] at h
      cases h1 : pAttr (l.drop 1) with
      | error e => rw [h1] at h; cases h
      | ok x =>
        obtain ⟨p, q⟩ := x
        rw [h1] at h
        simp only at h
        by_cases h2 : p.1 ∈ S
        · rw [if_pos h2] at h; cases h
        · rw [if_neg h2] at h
          cases h3 : pAttrs f (S ++ [p.1]) q with
          | error e => rw [h3] at h; cases h
          | ok y =>
            obtain ⟨ats', r'⟩ := y
            rw [h3] at h
            injection h with h
            injection h with ha hb
            subst ha hb
            obtain ⟨a1, a2, a3⟩ := pAttr_some h1
            obtain ⟨b1, b2, b3⟩ := ih _ _ _ _ h3
            refine ⟨chkAs_cons.2 ⟨a1, a2, h2, b1⟩, ?_, b3⟩
            cases l with
            | nil => cases h0
            | cons c l' =>
              have hc : c = 32 := by simpa using h0
              subst hc
              rw [mkAs_cons, List.cons_append, List.append_assoc, b2]
              simpa using a3
    · rw [if_neg h0] at h
      injection h with h
      injection h with ha hb
      subst ha hb
      exact ⟨rfl, rfl, h0⟩
theorem mkAs_len (ats : List (List UInt8 × List UInt8)) : ats.length ≤ (mkAs ats).length := by
  induction ats with
  | nil => simp
  | cons p ats ih => rw [mkAs_cons]; simp; omega
end Go.Proofs.YtejjidbodfoiiaaGreatDoor
namespace Go.Proofs.YtejjidbodfoiiaaGreatDoor
set_option linter.unusedVariables false
set_option linter.unusedSimpArgs false

theorem chk_iff (nm tx : List UInt8) (ats : List (List UInt8 × List UInt8)) (ks : List Nd) : chk (.mk nm tx ats ks) = 0 ↔
    (nm = [] ∧ ats = [] ∧ ks = [] ∧ tx ≠ [] ∧ validB tx = true) ∨ (nm ≠ [] ∧ nameB nm = true ∧ tx = [] ∧ (emptyB nm = true → ks = []) ∧ chkAs [] ats = 0 ∧ chkKs false ks = 0) := by
  rw [chk]
  by_cases h0 : nm = []
  · rw [if_pos h0]
    by_cases h1 : ats ≠ [] ∨ ks ≠ []
    · rw [if_pos h1]
      constructor
      · intro h; cases h
      · rintro (⟨_, a, b, _⟩ | ⟨a, _⟩)
        · rcases h1 with h | h
          · exact absurd a h
          · exact absurd b h
        · exact absurd h0 a
    · rw [if_neg h1]
      have ha : ats = [] := Classical.byContradiction fun h => h1 (.inl h)
      have hk : ks = [] := Classical.byContradiction fun h => h1 (.inr h)
      by_cases h2 : tx = [] ∨ validB tx = false
      · rw [if_pos h2]
        constructor
        · intro h; cases h
        · rintro (⟨_, _, _, a, b⟩ | ⟨a, _⟩)
          · rcases h2 with h | h
            · exact absurd h a
            · rw [b] at h; cases h
          · exact absurd h0 a
      · rw [if_neg h2]
        constructor
        · intro _
          exact .inl ⟨h0, ha, hk, fun h => h2 (.inl h), by cases hv : validB tx; exact absurd (.inr hv) h2; rfl⟩
        · intro _; rfl
  · rw [if_neg h0]
    cases hn : nameB nm
    · rw [if_pos rfl]
      constructor
      · intro h; cases h
      · rintro (⟨a, _⟩ | ⟨_, b, _⟩)
        · exact absurd a h0
        · cases b
    · rw [if_neg (by decide)]
      by_cases h1 : tx ≠ [] ∨ (emptyB nm = true ∧ ks ≠ [])
      · rw [if_pos h1]
        constructor
        · intro h; cases h
        · rintro (⟨a, _⟩ | ⟨_, _, a, b, _⟩)
          · exact absurd a h0
          · rcases h1 with h | h
            · exact absurd a h
            · exact absurd (b h.1) h.2
      · rw [if_neg h1]
        have ha : tx = [] := Classical.byContradiction fun h => h1 (.inl h)
        have hk : emptyB nm = true → ks = [] := fun e => Classical.byContradiction fun h => h1 (.inr ⟨e, h⟩)
        by_cases h2 : chkAs [] ats ≠ 0
        · rw [if_pos h2]
          constructor
          · intro h; exact absurd h h2
          · rintro (⟨a, _⟩ | ⟨_, _, _, _, a, _⟩)
            · exact absurd a h0
            · exact absurd a h2
        · rw [if_neg h2]
          have h2' : chkAs [] ats = 0 := Classical.byContradiction h2
          constructor
          · intro h; exact .inr ⟨h0, rfl, ha, hk, h2', h⟩
          · rintro (⟨a, _⟩ | ⟨_, _, _, _, _, a⟩)
            · exact absurd a h0
            · exact a
theorem chkKs_cons (t : Bool) (k : Nd) (r : List Nd) : chkKs t (k :: r) = 0 ↔ (t = true → k.nm ≠ []) ∧ chk k = 0 ∧ chkKs (decide (k.nm = [])) r = 0 := by
  rw [chkKs]
  by_cases h1 : t = true ∧ k.nm = []
  · rw [if_pos h1]
    exact ⟨fun h => (by cases h), fun h => absurd h1.2 (h.1 h1.1)⟩
  · rw [if_neg h1]
    by_cases h2 : chk k ≠ 0
    · rw [if_pos h2]
      exact ⟨fun h => absurd h h2, fun h => absurd h.2.1 h2⟩
    · rw [if_neg h2]
      exact ⟨fun h => ⟨fun a b => h1 ⟨a, b⟩, Classical.byContradiction h2, h⟩, fun h => h.2.2⟩
/-- the markup of an element: the name, then -/
def tailN (nm : List UInt8) (ats : List (List UInt8 × List UInt8)) (ks : List Nd) : List UInt8 := if emptyB nm = true then [47, 62] else [62] ++ (mkuL ks ++ ([60, 47] ++ nm ++ [62]))
theorem mku_elem (nm tx : List UInt8) (ats : List (List UInt8 × List UInt8)) (ks : List Nd) (h : nm ≠ []) : mku (.mk nm tx ats ks) = 60 :: (nm ++ (mkAs ats ++ tailN nm ats ks)) := by
  rw [mku, if_neg h, tailN]
  split <;> simp
theorem mku_text (tx : List UInt8) (ats : List (List UInt8 × List UInt8)) (ks : List Nd) : mku (.mk [] tx ats ks) = esc tx := by rw [mku, if_pos rfl]
theorem mku_head1 (n : Nd) (h : n.nm ≠ []) : (mku n).head? = some 60 := by
  obtain ⟨nm, tx, ats, ks⟩ := n
  rw [mku_elem nm tx ats ks h]; rfl
theorem low_ne {nm : List UInt8} (h : nameB nm = true) : ∃ c q, nm = c :: q ∧ c ≠ 47 ∧ c ≠ 32 := by
  obtain ⟨a, b, _⟩ := name_parts h
  cases nm with
  | nil => exact absurd rfl b
  | cons c q =>
    have := a c (List.mem_cons_self ..)
    refine ⟨c, q, rfl, ?_, ?_⟩ <;> (rintro rfl; revert this; decide)
theorem mku_elem2 (n : Nd) (h : n.nm ≠ []) (hc : chk n = 0) : ∃ c q, mku n = 60 :: c :: q ∧ c ≠ 47 := by
  obtain ⟨nm, tx, ats, ks⟩ := n
  rcases (chk_iff _ _ _ _).1 hc with ⟨a, _⟩ | ⟨_, a, _⟩
  · exact absurd a h
  · obtain ⟨c, q, rfl, hc, _⟩ := low_ne a
    exact ⟨c, _, mku_elem (c :: q) tx ats ks h, hc⟩
theorem mku_text2 (n : Nd) (h : n.nm = []) (hc : chk n = 0) : ∃ c q, mku n = c :: q ∧ c ≠ 60 := by
  obtain ⟨nm, tx, ats, ks⟩ := n
  have h : nm = [] := h
  subst h
  rcases (chk_iff _ _ _ _).1 hc with ⟨_, _, _, a, _⟩ | ⟨a, _⟩
  · rw [mku_text]
    cases he : esc tx with
    | nil =>
      have := esc_len tx
      rw [he] at this
      exact absurd (List.eq_nil_of_length_eq_zero (by simpa using this)) a
    | cons c q => exact ⟨c, q, rfl, (esc_clean tx c (by rw [he]; exact List.mem_cons_self ..)).1⟩
  · exact absurd rfl a
theorem mku_ne (n : Nd) (hc : chk n = 0) : mku n ≠ [] := by
  by_cases h : n.nm = []
  · obtain ⟨c, q, e, _⟩ := mku_text2 n h hc; rw [e]; simp
  · obtain ⟨c, q, e, _⟩ := mku_elem2 n h hc; rw [e]; simp
/-- a valid node does not begin with an end of an element -/
theorem mku_open (n : Nd) (hc : chk n = 0) (r : List UInt8) : ¬ [60, 47] <+: mku n ++ r := by
  rintro ⟨z, hz⟩
  by_cases h : n.nm = []
  · obtain ⟨c, q, e, h1⟩ := mku_text2 n h hc
    rw [e] at hz
    simp at hz
    exact h1 hz.1.symm
  · obtain ⟨c, q, e, h1⟩ := mku_elem2 n h hc
    rw [e] at hz
    simp at hz
    exact h1 hz.1.symm
theorem tail_head (nm : List UInt8) (ats : List (List UInt8 × List UInt8)) (ks : List Nd) (r : List UInt8) : ∃ c q, tailN nm ats ks ++ r = c :: q ∧ (c = 47 ∨ c = 62) := by
  unfold tailN
  split
  · exact ⟨_, _, rfl, .inl rfl⟩
  · exact ⟨_, _, rfl, .inr rfl⟩
theorem mkAs_head (ats : List (List UInt8 × List UInt8)) (r : List UInt8) (c : UInt8) (h : (mkAs ats ++ r).head? = some c) : c = 32 ∨ r.head? = some c := by
  cases ats with
  | nil => right; exact h
  | cons p ats => rw [mkAs_cons] at h; left; simpa using h.symm
theorem head60 {r : List UInt8} (h : [60, 47] <+: r) : r.head? = some 60 := by obtain ⟨z, rfl⟩ := h; rfl
theorem pKs_ok (ks : List Nd) (IH : ∀ k ∈ ks, chk k = 0 → ∀ f kid r, 2 * (mku k ++ r).length + 1 ≤ f → (k.nm = [] → r.head? = some 60 ∨ (r = [] ∧ kid = false)) → pN f kid (mku k ++ r) = .ok (k, r)) :
    ∀ f t r, chkKs t ks = 0 → 2 * (mkuL ks ++ r).length + 2 ≤ f → [60, 47] <+: r → pKs f (mkuL ks ++ r) = .ok (ks, r) := by
  induction ks with
  | nil =>
    intro f t r _ hf hr
    cases f with
    | zero => omega
    | succ f => rw [show mkuL [] ++ r = r from by rw [mkuL]; rfl, pKs, if_pos hr]
  | cons k q ih =>
    intro f t r hc hf hr
    obtain ⟨h1, h2, h3⟩ := (chkKs_cons _ _ _).1 hc
    cases f with
    | zero => omega
    | succ f =>
      rw [mkuL, List.append_assoc] at hf ⊢
      have hne : mku k ++ (mkuL q ++ r) ≠ [] := by
        intro e
        exact mku_ne k h2 (List.append_eq_nil_iff.1 e).1
      rw [pKs, if_neg (mku_open k h2 _), if_neg hne, IH k (List.mem_cons_self ..) h2 f true _ (by omega)]
      · simp only
        have hl : 0 < (mku k).length := List.length_pos_iff.2 (mku_ne k h2)
        rw [ih (fun x hx => IH x (List.mem_cons_of_mem _ hx)) f _ r h3 (by simp only [List.length_append] at hf ⊢; omega) hr]
      · intro hk
        left
        cases q with
        | nil => rw [mkuL]; exact head60 hr
        | cons k2 q2 =>
          obtain ⟨g1, g2, _⟩ := (chkKs_cons _ _ _).1 h3
          have := mku_head1 k2 (g1 (by simp [hk]))
          rw [mkuL, List.append_assoc, List.head?_append, this]; rfl
theorem pN_ok : ∀ n, chk n = 0 → ∀ f kid r, 2 * (mku n ++ r).length + 1 ≤ f → (n.nm = [] → r.head? = some 60 ∨ (r = [] ∧ kid = false)) → pN f kid (mku n ++ r) = .ok (n, r) := by
  refine Nd.ind ?_
  intro nm tx ats ks IH hc f kid r hf hr
  cases f with
  | zero => omega
  | succ f =>
    by_cases h0 : nm = []
    · subst h0
      obtain ⟨c, q, e, hne⟩ := mku_text2 _ rfl hc
      have hh : (mku (.mk [] tx ats ks) ++ r).head? ≠ some 60 := by rw [e]; simpa using hne
      rcases (chk_iff _ _ _ _).1 hc with ⟨_, rfl, rfl, a, hv⟩ | ⟨a, _⟩
      · rw [pN, if_neg hh, mku_text]
        have hr' : ∀ c, r.head? = some c → notL c = false := by
          intro c hc
          rcases hr rfl with h | ⟨rfl, _⟩
          · rw [h] at hc; injection hc with hc; subst hc; rfl
          · cases hc
        obtain ⟨e1, e2⟩ := span_stop notL (esc tx) r (notL_esc tx) hr'
        unfold pData
        rw [e1, e2, if_neg, pText_ok hv]
        rintro ⟨rfl, hk⟩
        rcases hr rfl with h | ⟨_, h⟩
        · cases h
        · rw [h] at hk; cases hk
      · exact absurd rfl a
    · rcases (chk_iff _ _ _ _).1 hc with ⟨a, _⟩ | ⟨_, hn, rfl, he, ha, hk⟩
      · exact absurd a h0
      · rw [mku_elem _ _ _ _ h0] at hf ⊢
        rw [List.cons_append, pN, if_pos (show List.head? ((60 : UInt8) :: _) = some 60 from rfl), List.drop_one, List.tail_cons, List.append_assoc, List.append_assoc]
        obtain ⟨c, q, et, hct⟩ := tail_head nm ats ks r
        rw [pName_ok hn]
        · simp only
          rw [pAttrs_ok ats _ [] _ ha]
          · simp only
            unfold tailN
            unfold tailN at hf
            cases hE : emptyB nm
            · simp only [Bool.false_eq_true, if_false]
              rw [hE] at hf
              simp only [Bool.false_eq_true, if_false] at hf
              rw [List.append_assoc, pExp_ok]
              simp only
              rw [List.append_assoc, pKs_ok ks IH f false _ hk]
              · simp only
                rw [pExp_ok]
              · simp only [List.length_append, List.length_cons, List.length_nil] at hf ⊢; omega
              · exact ⟨nm ++ [62] ++ r, by simp⟩
            · simp only [if_true]
              rw [pExp_ok]
              simp only
              rw [he hE]
          · rw [et]; rcases hct with rfl | rfl <;> simp
          · have := mkAs_len ats; simp only [List.length_append]; omega
        · intro d hd
          rcases mkAs_head ats _ d hd with rfl | h
          · decide
          · rw [et] at h
            have : c = d := by simpa using h
            subst this
            rcases hct with rfl | rfl <;> decide
        · rw [et]; simp
theorem pTop_ok (n : Nd) (hc : chk n = 0) (r : List UInt8) (hr : n.nm = [] → r.head? = some 60 ∨ r = []) : pTop (mku n ++ r) = .ok (n, r) := by
  unfold pTop
  rw [if_neg (fun e => mku_ne n hc (List.append_eq_nil_iff.1 e).1)]
  exact pN_ok n hc _ false r (Nat.le_refl _) (fun h => (hr h).imp id fun e => ⟨e, rfl⟩)

theorem pN_some : ∀ f, (∀ kid l n r, pN f kid l = .ok (n, r) → l ≠ [] → chk n = 0 ∧ mku n ++ r = l ∧ (n.nm = [] → r.head? = some 60 ∨ (r = [] ∧ kid = false)) ∧ (l.head? = some 60 → n.nm ≠ [])) ∧
    (∀ l ks r t, pKs f l = .ok (ks, r) → (t = true → l.head? = some 60) → chkKs t ks = 0 ∧ mkuL ks ++ r = l ∧ [60, 47] <+: r) := by
  intro f
  induction f with
  | zero => exact ⟨fun kid l n r h => (by cases h), fun l ks r t h => (by cases h)⟩
  | succ f ih =>
    constructor
    · intro kid l n r h hl
      rw [pN] at h
      by_cases h0 : l.head? = some 60
      · rw [if_pos h0] at h
        cases l with
        | nil => exact absurd rfl hl
        | cons c l =>
          have hc : c = 60 := by simpa using h0
          subst hc
          rw [List.drop_one, List.tail_cons] at h
          cases h1 : pName l with
          | error e => rw [h1] at h; cases h
          | ok x =>
            obtain ⟨nm, r1⟩ := x
            rw [h1] at h
            simp only at h
            obtain ⟨a1, a2, a3⟩ := pName_some h1
            have hnm := (name_parts a1).2.1
            cases h2 : pAttrs (r1.length + 1) [] r1 with
            | error e => rw [h2] at h; cases h
            | ok y =>
              obtain ⟨ats, r2⟩ := y
              rw [h2] at h
              simp only at h
              obtain ⟨b1, b2, b3⟩ := pAttrs_some _ _ _ _ _ h2
              cases hE : emptyB nm
              · rw [hE] at h
                simp only [Bool.false_eq_true, if_false] at h
                cases h3 : pExp [62] r2 with
                | error e => rw [h3] at h; cases h
                | ok r3 =>
                  rw [h3] at h
                  simp only at h
                  cases h4 : pKs f r3 with
                  | error e => rw [h4] at h; cases h
                  | ok z =>
                    obtain ⟨ks, r4⟩ := z
                    rw [h4] at h
                    simp only at h
                    cases h5 : pExp ([60, 47] ++ nm ++ [62]) r4 with
                    | error e => rw [h5] at h; cases h
                    | ok r5 =>
                      rw [h5] at h
                      injection h with h
                      injection h with ha hb
                      subst ha hb
                      obtain ⟨k1, k2, k3⟩ := ih.2 _ _ _ false h4 (fun h => (by cases h))
                      refine ⟨(chk_iff _ _ _ _).2 (.inr ⟨hnm, a1, rfl, (fun h => by rw [hE] at h; cases h), b1, k1⟩), ?_, fun h => absurd h hnm, fun _ => hnm⟩
                      rw [mku_elem _ _ _ _ hnm, ← a2, ← b2, ← pExp_some h3, ← k2, ← pExp_some h5, tailN, hE]
                      simp
              · rw [hE] at h
                simp only [if_true] at h
                cases h3 : pExp [47, 62] r2 with
                | error e => rw [h3] at h; cases h
                | ok r3 =>
                  rw [h3] at h
                  injection h with h
                  injection h with ha hb
                  subst ha hb
                  refine ⟨(chk_iff _ _ _ _).2 (.inr ⟨hnm, a1, rfl, fun _ => rfl, b1, by rw [chkKs]⟩), ?_, fun h => absurd h hnm, fun _ => hnm⟩
                  rw [mku_elem _ _ _ _ hnm, ← a2, ← b2, ← pExp_some h3, tailN, hE]
                  simp
      · rw [if_neg h0] at h
        unfold pData at h
        by_cases h1 : l.dropWhile notL = [] ∧ kid = true
        · rw [if_pos h1] at h; cases h
        · rw [if_neg h1] at h
          cases h2 : pText (l.takeWhile notL) with
          | error e => rw [h2] at h; cases h
          | ok u =>
            rw [h2] at h
            injection h with h
            injection h with ha hb
            subst ha hb
            obtain ⟨e1, e2⟩ := pText_some h2
            refine ⟨(chk_iff _ _ _ _).2 (.inl ⟨rfl, rfl, rfl, ?_, e2⟩), ?_, ?_, fun h => absurd h h0⟩
            · rintro rfl
              have e1 : [] = l.takeWhile notL := e1
              cases l with
              | nil => exact hl rfl
              | cons c q =>
                rw [List.takeWhile_cons] at e1
                split at e1
                · cases e1
                · rename_i hc
                  have : c = 60 := by simpa [notL] using hc
                  exact h0 (by rw [this]; rfl)
            · rw [mku_text, e1]; exact List.takeWhile_append_dropWhile
            · intro _
              cases hd : l.dropWhile notL with
              | nil =>
                right
                refine ⟨rfl, ?_⟩
                cases kid
                · rfl
                · exact absurd ⟨hd, rfl⟩ h1
              | cons c q =>
                left
                have := span_head notL l c (by rw [hd]; rfl)
                have hc : c = 60 := by simpa [notL] using this
                rw [hc]; rfl
    · intro l ks r t h ht
      rw [pKs] at h
      by_cases h0 : [60, 47] <+: l
      · rw [if_pos h0] at h
        injection h with h
        injection h with ha hb
        subst ha hb
        exact ⟨by rw [chkKs], by rw [mkuL]; rfl, h0⟩
      · rw [if_neg h0] at h
        by_cases h1 : l = []
        · rw [if_pos h1] at h; cases h
        · rw [if_neg h1] at h
          cases h2 : pN f true l with
          | error e => rw [h2] at h; cases h
          | ok x =>
            obtain ⟨k, r1⟩ := x
            rw [h2] at h
            simp only at h
            obtain ⟨a1, a2, a3, a4⟩ := ih.1 _ _ _ _ h2 h1
            cases h3 : pKs f r1 with
            | error e => rw [h3] at h; cases h
            | ok y =>
              obtain ⟨q, r2⟩ := y
              rw [h3] at h
              injection h with h
              injection h with ha hb
              subst ha hb
              obtain ⟨b1, b2, b3⟩ := ih.2 _ _ _ (decide (k.nm = [])) h3 (fun h => by
                rcases a3 (by simpa using h) with h | ⟨_, h⟩
                · exact h
                · cases h)
              exact ⟨(chkKs_cons _ _ _).2 ⟨fun h => a4 (ht h), a1, b1⟩, by rw [mkuL, List.append_assoc, b2, a2], b3⟩
theorem pTop_some {l : List UInt8} {n : Nd} {r : List UInt8} (h : pTop l = .ok (n, r)) : chk n = 0 ∧ mku n ++ r = l := by
  unfold pTop at h
  by_cases h0 : l = []
  · rw [if_pos h0] at h; cases h
  · rw [if_neg h0] at h
    have := (pN_some _).1 _ _ _ _ h h0
    exact ⟨this.1, this.2.1⟩
end Go.Proofs.YtejjidbodfoiiaaGreatDoor
