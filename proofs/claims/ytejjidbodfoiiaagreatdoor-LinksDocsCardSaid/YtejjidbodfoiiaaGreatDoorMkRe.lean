/-
  Layer 33 (markup): the reader of the program: element.
-/
import Derived.Test.YtejjidbodfoiiaaGreatDoorMkRd
import Derived.Deep.DeepCutAuto
import Derived.Deep.CutBlock
namespace Go.Proofs.YtejjidbodfoiiaaGreatDoor
open Go.RowKit
set_option linter.unusedVariables false
set_option linter.unusedSimpArgs false
attribute [local go_sem] B_data B_size
attribute [local go_sem ↓] Go.wp_at_zero Go.wp_at_succ

theorem pData_err {kid : Bool} {l : List UInt8} {x : Int} (h : pData kid l = .error x) : x ≠ 0 := by
  unfold pData at h
  split at h
  · injection h with h; omega
  · cases hu : pText (l.takeWhile notL) with
    | error e => rw [hu] at h; injection h with h; rw [← h]; exact pText_err hu
    | ok u => rw [hu] at h; cases h
theorem pAttrs_err : ∀ {f : Nat} {S : List (List UInt8)} {l : List UInt8} {x : Int}, pAttrs f S l = .error x → x ≠ 0 := by
  intro f
  induction f with
  | zero => intro S l x h; rw [pAttrs] at h; injection h with h; omega
  | succ f ih =>
    intro S l x h
    rw [pAttrs] at h
    split at h
    · cases h1 : pAttr (l.drop 1) with
      | error e => rw [h1] at h; injection h with h; rw [← h]; exact pAttr_err h1
      | ok y =>
        rw [h1] at h
        simp only at h
        split at h
        · injection h with h; omega
        · cases h2 : pAttrs f (S ++ [y.1.1]) y.2 with
          | error e => rw [h2] at h; injection h with h; rw [← h]; exact ih h2
          | ok z => rw [h2] at h; cases h
    · cases h
theorem pNK_err : ∀ (f : Nat), (∀ (kid : Bool) (l : List UInt8) (x : Int), pN f kid l = .error x → x ≠ 0) ∧ (∀ (l : List UInt8) (x : Int), pKs f l = .error x → x ≠ 0) := by
  intro f
  induction f with
  | zero => exact ⟨fun kid l x h => by rw [pN] at h; injection h with h; omega, fun l x h => by rw [pKs] at h; injection h with h; omega⟩
  | succ f ih =>
    refine ⟨fun kid l x h => ?_, fun l x h => ?_⟩
    · rw [pN] at h
      split at h
      · cases h1 : pName (l.drop 1) with
        | error e => rw [h1] at h; injection h with h; rw [← h]; exact pName_err h1
        | ok y =>
          rw [h1] at h
          simp only at h
          cases h2 : pAttrs (y.2.length + 1) [] y.2 with
          | error e => rw [h2] at h; injection h with h; rw [← h]; exact pAttrs_err h2
          | ok z =>
            rw [h2] at h
            simp only at h
            split at h
            · cases h3 : pExp [47, 62] z.2 with
              | error e => rw [h3] at h; injection h with h; rw [← h]; exact pExp_err h3
              | ok r => rw [h3] at h; cases h
            · cases h3 : pExp [62] z.2 with
              | error e => rw [h3] at h; injection h with h; rw [← h]; exact pExp_err h3
              | ok r =>
                rw [h3] at h
                simp only at h
                cases h4 : pKs f r with
                | error e => rw [h4] at h; injection h with h; rw [← h]; exact ih.2 _ _ h4
                | ok q =>
                  rw [h4] at h
                  simp only at h
                  cases h5 : pExp ([60, 47] ++ y.1 ++ [62]) q.2 with
                  | error e => rw [h5] at h; injection h with h; rw [← h]; exact pExp_err h5
                  | ok r5 => rw [h5] at h; cases h
      · exact pData_err h
    · rw [pKs] at h
      split at h
      · cases h
      · split at h
        · injection h with h; omega
        · cases h1 : pN f true l with
          | error e => rw [h1] at h; injection h with h; rw [← h]; exact ih.1 _ _ _ h1
          | ok y =>
            rw [h1] at h
            simp only at h
            cases h2 : pKs f y.2 with
            | error e => rw [h2] at h; injection h with h; rw [← h]; exact ih.2 _ _ h2
            | ok z => rw [h2] at h; cases h
theorem pN_err {f : Nat} {kid : Bool} {l : List UInt8} {x : Int} (h : pN f kid l = .error x) : x ≠ 0 := (pNK_err f).1 kid l x h
theorem drewN_size (w : World) (n : Nat) : (w.drewN n).heap.size = w.heap.size := rfl
theorem exA_snocN {ks : List Nd} {p : Nd} {r : Except Int (List Nd × List UInt8)} :
    exA ks (match r with
      | .error e => .error e
      | .ok (as', r') => .ok (p :: as', r')) = exA (ks ++ [p]) r := by
  cases r with
  | error e => rfl
  | ok x => simp [exA]
/-- the blocks of an element, while the reader goes on -/
structure EX (w : World) (rb pb res ob : Nat) (c : NC) (W : World) : Prop where
  pp : Px W pb rb
  rs : Bx W res nc0
  bx : Bx W ob c
  g : w.grownBy W (some rb)
  ne : pb ≠ rb ∧ res ≠ rb ∧ ob ≠ rb
theorem EX.step {w : World} {rb pb res ob : Nat} {c : NC} {W W' : World} (h : EX w rb pb res ob c W) (hg : W.grownBy W' (some rb)) : EX w rb pb res ob c W' :=
  ⟨(hg.block pb h.pp.lt (fun e => h.ne.1 (Option.some.inj e))).trans h.pp, h.rs.grown hg h.ne.2.1, h.bx.grown hg h.ne.2.2, grown_trans h.g hg, h.ne⟩
theorem EK.ex {w : World} {rb : Nat} {s : ByteArray} {nm : List UInt8} {base0 base pb res ob k : Nat} {ats : List (List UInt8 × List UInt8)} {A : Option Addr} {ca : Nat} {ks : List Nd} {cs : List NC} {K : Option Addr} {ck : Nat} {W : World}
    (h : EK w rb s nm base0 base pb res ob k ats A ca ks cs K ck W) : EX w rb pb res ob ⟨nm, [], A, ats.length, ca, K, ks.length, ck⟩ W :=
  ⟨h.pp, h.rs, h.bx, h.g, by have := h.o1; have := h.o2; have := h.o3; have := h.o4; omega⟩
theorem EX.s0 {w : World} {rb pb res ob : Nat} {c : NC} {W : World} (h : EX w rb pb res ob c W) : W.cell? ⟨ob, 0, none⟩ = some (.string (B c.nm)) ∧ W.cell? ⟨ob, 1, none⟩ = some (.string (B c.tx)) ∧ W.cell? ⟨ob, 2, none⟩ = some (.slice c.A c.na c.ca) ∧ W.cell? ⟨ob, 3, none⟩ = some (.slice c.K c.nk c.ck) ∧ W.cell? ⟨pb, 0, none⟩ = some (.pointer (some ⟨rb, 0, none⟩)) :=
  ⟨h.bx.c0, h.bx.c1, h.bx.c2, h.bx.c3, h.pp.cell⟩
theorem EX.s4 {w : World} {rb pb res ob : Nat} {c : NC} {W : World} (h : EX w rb pb res ob c W) (hne : res ≠ ob ∧ res ≠ pb) (v0 v1 v2 v3 : Value) :
    ((((W.setCell ⟨res, 0, none⟩ v0).setCell ⟨res, 1, none⟩ v1).setCell ⟨res, 2, none⟩ v2).setCell ⟨res, 3, none⟩ v3).cell? ⟨ob, 0, none⟩ = some (.string (B c.nm)) ∧ ((((W.setCell ⟨res, 0, none⟩ v0).setCell ⟨res, 1, none⟩ v1).setCell ⟨res, 2, none⟩ v2).setCell ⟨res, 3, none⟩ v3).cell? ⟨ob, 1, none⟩ = some (.string (B c.tx)) ∧ ((((W.setCell ⟨res, 0, none⟩ v0).setCell ⟨res, 1, none⟩ v1).setCell ⟨res, 2, none⟩ v2).setCell ⟨res, 3, none⟩ v3).cell? ⟨ob, 2, none⟩ = some (.slice c.A c.na c.ca) ∧ ((((W.setCell ⟨res, 0, none⟩ v0).setCell ⟨res, 1, none⟩ v1).setCell ⟨res, 2, none⟩ v2).setCell ⟨res, 3, none⟩ v3).cell? ⟨ob, 3, none⟩ = some (.slice c.K c.nk c.ck) ∧ ((((W.setCell ⟨res, 0, none⟩ v0).setCell ⟨res, 1, none⟩ v1).setCell ⟨res, 2, none⟩ v2).setCell ⟨res, 3, none⟩ v3).cell? ⟨pb, 0, none⟩ = some (.pointer (some ⟨rb, 0, none⟩)) :=
  ⟨(cell_block (blk_set4 hne.1)).trans h.bx.c0, (cell_block (blk_set4 hne.1)).trans h.bx.c1, (cell_block (blk_set4 hne.1)).trans h.bx.c2, (cell_block (blk_set4 hne.1)).trans h.bx.c3, (cell_block (blk_set4 hne.2)).trans h.pp.cell⟩
/-- the attributes have been read -/
def AtsP (w : World) (rb : Nat) (s : ByteArray) (nm : List UInt8) (base pb res ob mb k1 : Nat) (W : World) : Prop :=
  ∃ (j : Nat) (ats : List (List UInt8 × List UInt8)) (A : Option Addr) (ca : Nat), j ≤ s.size ∧ k1 ≤ j ∧ EA w rb s nm base pb res ob mb j ats A ca W ∧ pAttrs ((s.toList.drop k1).length + 1) [] (s.toList.drop k1) = .ok (ats, s.toList.drop j)
set_option maxHeartbeats 8000000 in
set_option maxRecDepth 100000 in
theorem element_any (f : Nat) (IH : ∀ g, g ≤ f → NodeC g) (rb : Nat) (s : ByteArray) (k : Nat) (kid : Bool) (w : World) (h : Rx w rb s k) (hk : k < s.size) (h60 : s[k] = 60) (hs : s.size ≤ 1000000000) (hf : 2 * (s.size - k) + 1 ≤ f + 1) :
    Calls Tryz.prog 103 #[.pointer (some ⟨rb, 0, none⟩)] w (NPost rb s (pN (f + 1) kid (s.toList.drop k)) w) := by
  have HP : Hid (pN (f + 1) kid (s.toList.drop k) = match pName (s.toList.drop (k + 1)) with
      | .error e => .error e
      | .ok (nm, r1) => match pAttrs (r1.length + 1) [] r1 with
        | .error e => .error e
        | .ok (ats, r2) => if emptyB nm = true then (match pExp [47, 62] r2 with
            | .error e => .error e
            | .ok r3 => .ok (.mk nm [] ats [], r3))
          else match pExp [62] r2 with
          | .error e => .error e
          | .ok r3 => match pKs f r3 with
            | .error e => .error e
            | .ok (ks, r4) => match pExp ([60, 47] ++ nm ++ [62]) r4 with
              | .error e => .error e
              | .ok r5 => .ok (.mk nm [] ats ks, r5)) := by
    rw [pN, if_pos (by rw [drop_head s k hk, h60]), List.drop_drop]; rfl
  have HIH := Lib.hid IH
  clear IH h60
  have hlt := h.lt
  have q1 := h.c1
  have q2 := h.f1
  have eI : ((k + 1 : Nat) : Int) = (k : Int) + 1 := by omega
  have hR0 := h.set (m := k + 1)
  have hg0 := grown_setC w rb 1 (.int .i64 ((k + 1 : Nat) : Int))
  rw [eI] at hR0 hg0
  obtain ⟨W0, hW0⟩ : ∃ W0, W0 = w.setCell ⟨rb, 1, none⟩ (.int .i64 ((k : Int) + 1)) := ⟨_, rfl⟩
  have hs0 : W0.heap.size = w.heap.size := by rw [hW0]; simp
  rw [← hW0] at hR0 hg0
  obtain ⟨W1, hW1⟩ : ∃ W1, W1 = W0.alloc (.cells #[.pointer (some ⟨rb, 0, none⟩)] 113) := ⟨_, rfl⟩
  have hs1 : W1.heap.size = w.heap.size + 1 := by rw [hW1]; simp [hs0]
  have hP1 : Px W1 w.heap.size rb := by rw [hW1, ← hs0]; exact heap_alloc_new W0 _
  have hR1 : Rx W1 rb s (k + 1) := by rw [hW1]; exact hR0.alloc _
  have hg1 : w.grownBy W1 (some rb) := by rw [hW1]; exact grown_alloc hg0 _
  obtain ⟨W2, hW2⟩ : ∃ W2, W2 = W1.alloc (.cells #[.string ⟨#[]⟩, .string ⟨#[]⟩, .slice none 0 0, .slice none 0 0] 65) := ⟨_, rfl⟩
  have hs2 : W2.heap.size = w.heap.size + 1 + 1 := by rw [hW2]; simp [hs1]
  have hB3 : Bx W2 (w.heap.size + 1) nc0 := by rw [hW2, ← hs1]; exact heap_alloc_new W1 _
  have hP3 : Px W2 w.heap.size rb := by rw [hW2]; exact ((below_alloc W1 _).block _ hP1.lt).trans hP1
  have hR3 : Rx W2 rb s (k + 1) := by rw [hW2]; exact hR1.alloc _
  have hg3 : w.grownBy W2 (some rb) := by rw [hW2]; exact grown_alloc hg1 _
  have C := Lib.hid (name_any rb s (k + 1) _ hR3 (by omega) hs)
  have HZ3 := Lib.hid hs2
  subst hW2 hW1 hW0
  clear hs0 hs1 hs2 hP1 hR1 hg1 eI hR0 hg0
  cases hn : pName (s.toList.drop (k + 1)) with
  | error x =>
    have HX : Hid (pN (f + 1) kid (s.toList.drop k) = .error x) := by rw [HP.out, hn]; rfl
    have hx0 := pName_err hn
    have z1 : (x != 0) = true := by simpa using hx0
    have z2 : (x == 0) = false := by simpa using hx0
    rw [hn] at C
    clear hn HP hx0
    go_enter Tryz.func103, Tryz.ntmps103
    go_wp2_with fail
    refine C.out.mono ?_
    rintro e w1 ⟨hg4, rfl⟩
    have hB4 := hB3.grown hg4 (by omega)
    have hg5 := grown_trans hg3 hg4
    have p0 := hB4.c0
    have p1 := hB4.c1
    have p2 := hB4.c2
    have p3 := hB4.c3
    have pf0 := hB4.ff (i := 0)
    have pf1 := hB4.ff (i := 1)
    have pf2 := hB4.ff (i := 2)
    have pf3 := hB4.ff (i := 3)
    clear q1 q2
    go_wp2
    refine bodyPost_ret (v := .tuple #[.agg #[.string ⟨#[]⟩, .string ⟨#[]⟩, .slice none 0 0, .slice none 0 0], .int .i64 x]) (by simp [results, Tryz.results103, go_sem, p0, p1, p2, p3]) rfl ?_
    unfold NPost
    rw [HX.out]
    exact ⟨grown_set4 hg5 (by omega), nc0, rfl⟩
  | ok y =>
    obtain ⟨nm, r1⟩ := y
    rw [hn] at C
    have hnl : nm.length ≤ 60 := (name_parts (pName_some hn).1).2.2
    have hrl := congrArg List.length (pName_some hn).2.1
    rw [List.length_append, drop_len] at hrl
    have HP2 : Hid (pN (f + 1) kid (s.toList.drop k) = match pAttrs (r1.length + 1) [] r1 with
        | .error e => .error e
        | .ok (ats, r2) => if emptyB nm = true then (match pExp [47, 62] r2 with
            | .error e => .error e
            | .ok r3 => .ok (.mk nm [] ats [], r3))
          else match pExp [62] r2 with
          | .error e => .error e
          | .ok r3 => match pKs f r3 with
            | .error e => .error e
            | .ok (ks, r4) => match pExp ([60, 47] ++ nm ++ [62]) r4 with
              | .error e => .error e
              | .ok r5 => .ok (.mk nm [] ats ks, r5)) := by rw [HP.out, hn]; rfl
    clear HP hn
    have hmk := run_mkS
    go_enter Tryz.func103, Tryz.ntmps103
    go_wp2_with fail
    refine C.out.mono ?_
    rintro e w1 ⟨hg4, rfl, k1, hR4, hd4, hk4⟩
    have hP4 : Px w1 w.heap.size rb := (hg4.block _ hP3.lt (fun e => by injection e with e; omega)).trans hP3
    have hB4 := hB3.grown hg4 (by omega)
    have hg5 := grown_trans hg3 hg4
    have hs4 : w.heap.size + 1 + 1 ≤ w1.heap.size := by rw [← HZ3.out]; exact hg4.size
    subst hd4
    rw [drop_len] at hrl
    have hkk1 : k < k1 := by omega
    clear hrl
    have hO5 : Bx (w1.alloc (.cells #[.string (B nm), .string ⟨#[]⟩, .slice none 0 0, .slice none 0 0] 65)) w1.heap.size ⟨nm, [], none, 0, 0, none, 0, 0⟩ := heap_alloc_new w1 _
    have hM5 := heap_alloc_new (w1.alloc (.cells #[.string (B nm), .string ⟨#[]⟩, .slice none 0 0, .slice none 0 0] 65)) (.map #[] 0)
    rw [show (w1.alloc (.cells #[.string (B nm), .string ⟨#[]⟩, .slice none 0 0, .slice none 0 0] 65)).heap.size = w1.heap.size + 1 from by simp] at hM5
    have hbb := below_alloc w1 (.cells #[.string (B nm), .string ⟨#[]⟩, .slice none 0 0, .slice none 0 0] 65)
    have hEA : EA w rb s nm (w1.heap.size + 2) w.heap.size (w.heap.size + 1) w1.heap.size (w1.heap.size + 1) k1 [] none 0 ((w1.alloc (.cells #[.string (B nm), .string ⟨#[]⟩, .slice none 0 0, .slice none 0 0] 65)).alloc (.map #[] 0)) :=
      ⟨(hR4.alloc _).alloc _, by
        have h1 := (hbb.block _ hP4.lt).trans hP4
        exact ((below_alloc _ (.map #[] 0)).block _ (by have := hP4.lt; simp; omega)).trans h1,
       (hB4.alloc _).alloc _, hO5.alloc _, ⟨rfl, .inl ⟨rfl, rfl⟩⟩, ⟨#[], 0, hM5, rfl⟩, grown_alloc (grown_alloc hg5 _) _, hlt, ⟨by omega, by omega⟩, ⟨by omega, by omega⟩, ⟨by omega, by omega⟩, ⟨by omega, by omega⟩, ⟨by omega, by omega, by omega, by omega, by omega, by omega⟩, by simp⟩
    clear C hg4 hP3 hB3 hg3 hR3 hP4 hB4 hg5 hR4 hO5 hM5 hbb q1 q2 HZ3
    go_upto_block 0 with fail
    generalize (w1.alloc (.cells #[.string (B nm), .string ⟨#[]⟩, .slice none 0 0, .slice none 0 0] 65)).alloc (.map #[] 0) = W at *
    generalize w1.heap.size = ob at *
    clear hmk
    have hdl := drop_len s k1
    have HDL := Lib.hid hdl
    clear hdl
    go_cut [] (fun wx => AtsP w rb s nm (ob + 2) w.heap.size (w.heap.size + 1) ob (ob + 1) k1 wx)
    case first =>
      go_wp2
      go_loopw [39] (fun _ wr => ∃ (j g : Nat) (ats : List (List UInt8 × List UInt8)) (A : Option Addr) (ca : Nat), j ≤ s.size ∧ s.size - j < g ∧ ats.length ≤ j ∧ k1 ≤ j ∧ EA w rb s nm (ob + 2) w.heap.size (w.heap.size + 1) ob (ob + 1) j ats A ca wr ∧ Hid (pAttrs ((s.toList.drop k1).length + 1) [] (s.toList.drop k1) = exA ats (pAttrs g (ats.map (·.1)) (s.toList.drop j)))) (fun _ wr => s.size - rat wr rb)
      case atStart => exact ⟨k1, (s.toList.drop k1).length + 1, [], none, 0, hk4, by rw [HDL.out]; omega, by simp, Nat.le_refl _, hEA, (exA_nil _).symm⟩
      case round =>
        obtain ⟨j, g, ats, A, ca, hj, hg, hal, hkj, hE, hr⟩ := hrel
        obtain ⟨g, rfl⟩ : ∃ g', g = g' + 1 := ⟨g - 1, by omega⟩
        have b0 := hE.r.c0
        have b1 := hE.r.c1
        have f1 := hE.r.f1
        have pc := hE.pp.cell
        have o4 := hE.o4
        have o5 := hE.o5
        have o3 := hE.o3
        have o1 := hE.o1
        have hlb := hE.lb
        have HPA : Hid (pAttrs (g + 1) (ats.map (·.1)) (s.toList.drop j) = if (s.toList.drop j).head? = some 32 then (match pAttr (s.toList.drop (j + 1)) with
            | .error e => .error e
            | .ok (p, r) => if p.1 ∈ ats.map (·.1) then .error 7 else match pAttrs g (ats.map (·.1) ++ [p.1]) r with
              | .error e => .error e
              | .ok (as', r') => .ok (p :: as', r'))
          else .ok ([], s.toList.drop j)) := by rw [pAttrs, List.drop_drop]; rfl
        by_cases hsp : (s.toList.drop j).head? = some 32
        · have hlt2 : j < s.size := by
            apply Classical.byContradiction
            intro hc
            rw [List.drop_of_length_le (by rw [len_toList]; omega)] at hsp
            cases hsp
          have h32 : s[j] = 32 := by rw [drop_head s j hlt2] at hsp; exact Option.some.inj hsp
          have d0 : decide ((j : Int) < (s.size : Int)) = true := by simp; omega
          have d1 : ((s[j].toNat : Int) == 32) = true := by rw [h32]; rfl
          have i1 : (0 : Int) ≤ (j : Int) := by omega
          have i2 : (j : Int) < (s.size : Int) := by omega
          have HPB : Hid (pAttrs (g + 1) (ats.map (·.1)) (s.toList.drop j) = match pAttr (s.toList.drop (j + 1)) with
            | .error e => .error e
            | .ok (p, r) => if p.1 ∈ ats.map (·.1) then .error 7 else match pAttrs g (ats.map (·.1) ++ [p.1]) r with
              | .error e => .error e
              | .ok (as', r') => .ok (p :: as', r')) := by rw [HPA.out, if_pos hsp]; rfl
          have hE1 := hE.setR (m := j + 1)
          have eI : ((j + 1 : Nat) : Int) = (j : Int) + 1 := by omega
          rw [eI] at hE1
          clear HPA hsp h32 eI
          go_wp2
          go_quiet (fail)
          rename_i nq
          have hE2 := hE1.drewN nq
          have C := Lib.hid (attribute_any rb s (j + 1) _ hE2.r (by omega) hs)
          clear hE1
          cases ha : pAttr (s.toList.drop (j + 1)) with
          | error x =>
            have HX : Hid (pN (f + 1) kid (s.toList.drop k) = .error x) := by rw [HP2.out, hr.out, HPB.out, ha]; rfl
            have hx0 := pAttr_err ha
            have z1 : (x != 0) = true := by simpa using hx0
            have z2 : (x == 0) = false := by simpa using hx0
            rw [ha] at C
            clear ha HPB hx0 HP2 hr
            go_wp2_with fail
            refine C.out.mono ?_
            rintro e w3 ⟨hg3, rfl⟩
            have hB4 := hE2.rs.grown hg3 (by omega)
            have hg5 := grown_trans hE2.g hg3
            have p0 := hB4.c0
            have p1 := hB4.c1
            have p2 := hB4.c2
            have p3 := hB4.c3
            have pf0 := hB4.ff (i := 0)
            have pf1 := hB4.ff (i := 1)
            have pf2 := hB4.ff (i := 2)
            have pf3 := hB4.ff (i := 3)
            have pl := hB4.lt
            clear b0 b1 f1 pc hE2
            go_wp2
            refine bodyPost_ret (v := .tuple #[.agg #[.string ⟨#[]⟩, .string ⟨#[]⟩, .slice none 0 0, .slice none 0 0], .int .i64 x]) (by simp [results, Tryz.results103, go_sem, p0, p1, p2, p3, pl, Nat.ne_of_lt pl]) rfl ?_
            unfold NPost
            rw [HX.out]
            exact ⟨grown_alloc (grown_set4 hg5 (by omega)) _, nc0, rfl⟩
          | ok y =>
            obtain ⟨p, l2⟩ := y
            rw [ha] at C
            have HPC : Hid (pAttrs (g + 1) (ats.map (·.1)) (s.toList.drop j) = if p.1 ∈ ats.map (·.1) then .error 7 else match pAttrs g (ats.map (·.1) ++ [p.1]) l2 with
              | .error e => .error e
              | .ok (as', r') => .ok (p :: as', r')) := by rw [HPB.out, ha]; rfl
            have hpl : l2.length + 1 ≤ s.size - (j + 1) ∧ p.1.length ≤ 1000000000 ∧ p.2.length ≤ 1000000000 := by
              obtain ⟨_, _, e⟩ := pAttr_some ha
              have e := congrArg List.length e
              have := esc_len p.2
              rw [drop_len, List.length_append] at e
              simp only [mkA, List.length_append, List.length_cons, List.length_nil] at e
              omega
            clear ha HPB
            go_wp2_with fail
            refine C.out.mono ?_
            rintro e w3 ⟨hg3, rfl, k2, hR3, hd3, hk3⟩
            subst hd3
            rw [drop_len] at hpl
            obtain ⟨hpl1, hpl2, hpl3⟩ := hpl
            have hE3 := hE2.grow hg3 hR3
            obtain ⟨pk, pv⟩ := p
            have hlk := look_seen (hE3.alloc (.cells #[.string (B pk), .string (B pv)] 71)).mp pk
            have hE4 := hE3.alloc (.cells #[.string (B pk), .string (B pv)] 71)
            clear C hE2 b0 b1 f1 pc
            by_cases hs7 : pk ∈ ats.map (·.1)
            · have HX : Hid (pN (f + 1) kid (s.toList.drop k) = .error 7) := by rw [HP2.out, hr.out, HPC.out, if_pos hs7]; rfl
              rw [decide_eq_true hs7] at hlk
              have hB4 := hE3.rs
              have p0 := hB4.c0
              have p1 := hB4.c1
              have p2 := hB4.c2
              have p3 := hB4.c3
              have pf0 := hB4.ff (i := 0)
              have pf1 := hB4.ff (i := 1)
              have pf2 := hB4.ff (i := 2)
              have pf3 := hB4.ff (i := 3)
              have pl := hB4.lt
              have hg5 := hE3.g
              clear hs7 HPC hE4
              go_wp2
              refine bodyPost_ret (v := .tuple #[.agg #[.string ⟨#[]⟩, .string ⟨#[]⟩, .slice none 0 0, .slice none 0 0], .int .i64 7]) (by simp [results, Tryz.results103, go_sem, p0, p1, p2, p3, pl, Nat.ne_of_lt pl]) rfl ?_
              unfold NPost
              rw [HX.out]
              exact ⟨grown_alloc (grown_set4 hg5 (by omega)) _, nc0, rfl⟩
            · have HPD : Hid (pAttrs (g + 1) (ats.map (·.1)) (s.toList.drop j) = match pAttrs g (ats.map (·.1) ++ [pk]) (s.toList.drop k2) with
                | .error e => .error e
                | .ok (as', r') => .ok ((pk, pv) :: as', r')) := by rw [HPC.out, if_neg hs7]; rfl
              rw [decide_eq_false hs7] at hlk
              have hno : lookL pk (seenM (ats.map (·.1))) = none := by
                rcases seen_look pk (ats.map (·.1)) with ⟨a, _⟩ | ⟨_, b⟩
                · exact absurd a hs7
                · exact b
              have HNO := Lib.hid hno
              clear hs7 hno HPC
              have hE5 := hE4
              go_wp2_with (refine wpList_updG rfl 73 9 4 _ _ _ rfl Tryz.underlying73 Tryz.underlying9 (ob + 1) (seenM (ats.map (·.1))) hE4.mp rfl pk rfl (.bool true) rfl HNO.out ?_)
              intro w4 hm4 hg4
              obtain ⟨hr4, hp4, hrs4, hbx4, how4, hgg4, hlb4⟩ := hE4.upd hg4
              have x2 := hbx4.c2
              have x3 := hbx4.ff (i := 2)
              have hk4 := (hg4.block w3.heap.size (by simp) (fun e => by have := hE3.mp.lt; injection e with e; omega)).trans (heap_alloc_new w3 (.cells #[.string (B pk), .string (B pv)] 71))
              have k0 : w4.cell? ⟨w3.heap.size, 0, none⟩ = some (.string (B pk)) := by simp [World.cell?, hk4]
              have k1' : w4.cell? ⟨w3.heap.size, 1, none⟩ = some (.string (B pv)) := by simp [World.cell?, hk4]
              clear hk4
              go_wp2_with (at_builtin; (refine wpList_app2 rfl (.tmp 88) (.tmp 90) 27 rfl 71 (.agg #[.string ⟨#[]⟩, .string ⟨#[]⟩]) 2 32 Tryz.underlying27 Tryz.infoPair rfl (by omega) w4 [.string (B pk), .string (B pv)] rfl (by simp; exact ⟨rfl, rfl⟩) (ob + 2) (.slice A ats.length ca) ats.length (ats.flatMap prF) how4 rfl ?c3 (by omega) (by omega) hlb4 ?_))
              intro v' w5 hown5 hg5 hb5 hat5
              obtain ⟨A2, c2, hv2, hnc2⟩ := own_form hown5
              subst hv2
              have hE6 := hE4.app (p := (pk, pv)) hg4 hm4 hown5 hb5 hg5
              have hbx5 : Bx w5 ob _ := (hb5.block ob (by omega)).trans hbx4
              have y2 := hbx5.c2
              have y3 := hbx5.ff (i := 2)
              have HRR : Hid (pAttrs ((s.toList.drop k1).length + 1) [] (s.toList.drop k1) = exA (ats ++ [(pk, pv)]) (pAttrs g ((ats ++ [(pk, pv)]).map (·.1)) (s.toList.drop k2))) := by
                rw [hr.out, HPD.out, List.map_append]; exact exA_snoc
              have hal2 : (ats ++ [(pk, pv)]).length ≤ k2 := by rw [List.length_append]; show ats.length + 1 ≤ k2; omega
              clear hown5 hg5 hb5 hat5 hm4 hg4 hr4 hp4 hrs4 hbx4 how4 hgg4 hlb4 x2 x3 k0 k1' hE4 hE5 hlk HPD hr hbx5
              go_wp2
              go_roundw
              case rel => exact ⟨k2, g, ats ++ [(pk, pv)], A2, c2, hk3, by omega, hal2, by omega, hE6, HRR⟩
              case measure => exact Rx.meas hE.r hE6.r hlt2 (by omega)
        · have HPF : Hid (pAttrs ((s.toList.drop k1).length + 1) [] (s.toList.drop k1) = .ok (ats, s.toList.drop j)) := by rw [hr.out, HPA.out, if_neg hsp]; simp [exA, Hid]
          have hE1 := hE.drewN
          by_cases hlt2 : j < s.size
          · have d0 : decide ((j : Int) < (s.size : Int)) = true := by simp; omega
            have d1 : ((s[j].toNat : Int) == 32) = false := by
              rw [drop_head s j hlt2] at hsp
              rw [beq_eq_false_iff_ne]
              intro e
              exact hsp (congrArg some (UInt8.toNat_inj.1 (by have : s[j].toNat = 32 := by omega
                                                              rw [this]; rfl)))
            have i1 : (0 : Int) ≤ (j : Int) := by omega
            have i2 : (j : Int) < (s.size : Int) := by omega
            clear HPA hsp
            go_wp2
            go_quiet (fail)
            go_wp2
            go_meet
            exact ⟨j, ats, A, ca, hj, hkj, hE1 _, HPF.out⟩
          · have d0 : decide ((j : Int) < (s.size : Int)) = false := by simp; omega
            clear HPA hsp
            go_wp2
            go_quiet (fail)
            go_wp2
            go_meet
            exact ⟨j, ats, A, ca, hj, hkj, hE1 _, HPF.out⟩
    case rest =>
      obtain ⟨j, ats, A, ca, hj, hkj, hE, hpa⟩ := hcut
      have HP3 : Hid (pN (f + 1) kid (s.toList.drop k) = if emptyB nm = true then (match pExp [47, 62] (s.toList.drop j) with
            | .error e => .error e
            | .ok r3 => .ok (.mk nm [] ats [], r3))
          else match pExp [62] (s.toList.drop j) with
          | .error e => .error e
          | .ok r3 => match pKs f r3 with
            | .error e => .error e
            | .ok (ks, r4) => match pExp ([60, 47] ++ nm ++ [62]) r4 with
              | .error e => .error e
              | .ok r5 => .ok (.mk nm [] ats ks, r5)) := by rw [HP2.out, hpa]; rfl
      clear HP2 hpa
      have o3 := hE.o3
      have o4 := hE.o4
      have o1 := hE.o1
      have pc := hE.pp.cell
      have hK := hE.kids
      have hne4 : w.heap.size + 1 ≠ ob ∧ w.heap.size + 1 ≠ w.heap.size := ⟨hE.n1.2.1, by omega⟩
      have CE := Lib.hid (fun V => isEmpty_any (B nm) V)
      rw [B_data] at CE
      cases hem : emptyB nm
      · rw [hem] at CE
        have HP4 : Hid (pN (f + 1) kid (s.toList.drop k) = match pExp [62] (s.toList.drop j) with
          | .error e => .error e
          | .ok r3 => match pKs f r3 with
            | .error e => .error e
            | .ok (ks, r4) => match pExp ([60, 47] ++ nm ++ [62]) r4 with
              | .error e => .error e
              | .ok r5 => .ok (.mk nm [] ats ks, r5)) := by rw [HP3.out, if_neg (by simp [hem])]; rfl
        clear HP3 hem
        have CX := Lib.hid (expect_any rb s j [62] wc hK.r hj hs (by simp))
        go_wp2_with fail
        refine (CE.out _).mono ?_
        rintro e w6 ⟨rfl, rfl⟩
        cases hx : pExp [62] (s.toList.drop j) with
        | error x =>
          have HX : Hid (pN (f + 1) kid (s.toList.drop k) = .error x) := by rw [HP4.out, hx]; rfl
          have hx0 := pExp_err hx
          have z1 : (x != 0) = true := by simpa using hx0
          have z2 : (x == 0) = false := by simpa using hx0
          rw [hx] at CX
          clear hx HP4 CE hx0
          go_wp2_with fail
          refine CX.out.mono ?_
          rintro e w7 ⟨hg7, rfl⟩
          have hB4 := hK.rs.grown hg7 (by omega)
          have hg5 := grown_trans hK.g hg7
          have p0 := hB4.c0
          have p1 := hB4.c1
          have p2 := hB4.c2
          have p3 := hB4.c3
          have pf0 := hB4.ff (i := 0)
          have pf1 := hB4.ff (i := 1)
          have pf2 := hB4.ff (i := 2)
          have pf3 := hB4.ff (i := 3)
          clear pc hK hE
          go_wp2
          refine bodyPost_ret (v := .tuple #[.agg #[.string ⟨#[]⟩, .string ⟨#[]⟩, .slice none 0 0, .slice none 0 0], .int .i64 x]) (by simp [results, Tryz.results103, go_sem, p0, p1, p2, p3]) rfl ?_
          unfold NPost
          rw [HX.out]
          exact ⟨grown_set4 hg5 (by omega), nc0, rfl⟩
        | ok r3 =>
          have HP5 : Hid (pN (f + 1) kid (s.toList.drop k) = match pKs f r3 with
            | .error e => .error e
            | .ok (ks, r4) => match pExp ([60, 47] ++ nm ++ [62]) r4 with
              | .error e => .error e
              | .ok r5 => .ok (.mk nm [] ats ks, r5)) := by rw [HP4.out, hx]; rfl
          have hxl := congrArg List.length (pExp_some hx)
          rw [hx] at CX
          clear hx HP4 CE
          go_wp2_with fail
          refine CX.out.mono ?_
          rintro e w7 ⟨hg7, rfl, k2, hR7, hd7, hk7⟩
          have hK7 := hK.grow hg7 hR7
          subst hd7
          rw [List.length_append, drop_len, drop_len] at hxl
          have hkk2 : j < k2 := by simp only [List.length_cons, List.length_nil] at hxl; omega
          clear hxl CX hg7 hR7 hK hE pc
          go_wp2
          generalize wc.heap.size = base at *
          go_loopw [106] (fun _ wr => ∃ (j2 g : Nat) (ks : List Nd) (cs : List NC) (K : Option Addr) (ck : Nat), j2 ≤ s.size ∧ k2 ≤ j2 ∧ 2 * (s.size - j2) + 2 ≤ g ∧ g ≤ f ∧ ks.length ≤ j2 ∧ EK w rb s nm (ob + 2) base w.heap.size (w.heap.size + 1) ob j2 ats A ca ks cs K ck wr ∧ Hid (pKs f (s.toList.drop k2) = exA ks (pKs g (s.toList.drop j2)))) (fun _ wr => s.size - rat wr rb)
          case atStart => exact ⟨k2, f, [], [], none, 0, hk7, Nat.le_refl _, by omega, Nat.le_refl _, by simp, hK7, (exA_nil _).symm⟩
          case round =>
            obtain ⟨j2, g, ks, cs, K, ck, hj2, hkj2, hg2, hgf, hkl, hK, hr⟩ := hrel
            obtain ⟨g, rfl⟩ : ∃ g', g = g' + 1 := ⟨g - 1, by omega⟩
            have HPK : Hid (pKs (g + 1) (s.toList.drop j2) = if [60, 47] <+: s.toList.drop j2 then .ok ([], s.toList.drop j2) else if s.toList.drop j2 = [] then .error 4 else match pN g true (s.toList.drop j2) with
              | .error e => .error e
              | .ok (k, r) => match pKs g r with
                | .error e => .error e
                | .ok (ks, r') => .ok (k :: ks, r')) := by rw [pKs]; rfl
            have CK := Lib.hid (kids_any w.heap.size rb s j2 wr hK.pp hK.r hj2 hs)
            by_cases hend : [60, 47] <+: s.toList.drop j2
            · rw [decide_eq_true hend] at CK
              have HP6 : Hid (pN (f + 1) kid (s.toList.drop k) = match pExp ([60, 47] ++ nm ++ [62]) (s.toList.drop j2) with
                | .error e => .error e
                | .ok r5 => .ok (.mk nm [] ats ks, r5)) := by
                rw [HP5.out, hr.out, HPK.out, if_pos hend]
                simp [exA, Hid]
              clear HPK HP5 hr hend
              obtain ⟨Z1, eZ1, lZ1, qZ1⟩ := cat_step [60, 47] nm ⟨#[60, 47]⟩ (B nm) rfl rfl (by simp only [List.length]; omega)
              obtain ⟨Z2, eZ2, lZ2, qZ2⟩ := cat_step Z1 [62] (B Z1) ⟨#[62]⟩ rfl rfl (by rw [lZ1]; simp only [List.length]; omega)
              have HZ : Hid (Z2 = [60, 47] ++ nm ++ [62]) := by rw [eZ2, eZ1]; rfl
              have hZl : Z2.length ≤ 100 := by rw [lZ2, lZ1]; simp only [List.length]; omega
              clear eZ1 eZ2 lZ1 lZ2
              go_wp2_with fail
              refine CK.out.mono ?_
              rintro e w8 ⟨rfl, nq, rfl⟩
              have hK8 := (hK.drewN nq).drewN 1
              have hX := hK8.ex
              have CX := Lib.hid (expect_any rb s j2 Z2 _ hK8.r hj2 hs (by omega))
              rw [← HZ.out] at HP6
              clear hK CK HZ
              go_wp2
              cases hx : pExp Z2 (s.toList.drop j2) with
              | error x =>
                have HX : Hid (pN (f + 1) kid (s.toList.drop k) = .error x) := by rw [HP6.out, hx]; rfl
                rw [hx] at CX
                clear hx HP6 hK8
                go_region_held3 (fun w' => w'.cell? ⟨ob, 0, none⟩ = some (.string (B nm)) ∧ w'.cell? ⟨ob, 1, none⟩ = some (.string (B [])) ∧ w'.cell? ⟨ob, 2, none⟩ = some (.slice A ats.length ca) ∧ w'.cell? ⟨ob, 3, none⟩ = some (.slice K ks.length ck) ∧ w'.cell? ⟨w.heap.size, 0, none⟩ = some (.pointer (some ⟨rb, 0, none⟩)))
                  (first | exact hX.s0 | exact hX.s4 hne4 _ _ _ _)
                  (first
                    | (go_at_call 132; refine CX.out.mono ?_; rintro e w' ⟨hg, rfl⟩; have hX' := hX.step hg; clear hX hg; have hX := hX'; clear hX'; have p0 := hX.rs.c0; have p1 := hX.rs.c1; have p2 := hX.rs.c2; have p3 := hX.rs.c3; have pf0 := hX.rs.ff (i := 0); have pf1 := hX.rs.ff (i := 1); have pf2 := hX.rs.ff (i := 2); have pf3 := hX.rs.ff (i := 3)))
                go_wp2
                refine bodyPost_ret (v := .tuple #[.agg #[.string (B nm), .string (B []), .slice A ats.length ca, .slice K ks.length ck], .int .i64 x]) (by simp [results, Tryz.results103, go_sem, p0, p1, p2, p3]) rfl ?_
                unfold NPost
                rw [HX.out]
                exact ⟨grown_set4 hX.g (by omega), ⟨nm, [], A, ats.length, ca, K, ks.length, ck⟩, rfl⟩
              | ok r5 =>
                have HX : Hid (pN (f + 1) kid (s.toList.drop k) = .ok (.mk nm [] ats ks, r5)) := by rw [HP6.out, hx]; rfl
                rw [hx] at CX
                clear hx HP6
                have hK := hK8
                clear hK8
                go_region_held3 (fun w' => w'.cell? ⟨ob, 0, none⟩ = some (.string (B nm)) ∧ w'.cell? ⟨ob, 1, none⟩ = some (.string (B [])) ∧ w'.cell? ⟨ob, 2, none⟩ = some (.slice A ats.length ca) ∧ w'.cell? ⟨ob, 3, none⟩ = some (.slice K ks.length ck) ∧ w'.cell? ⟨w.heap.size, 0, none⟩ = some (.pointer (some ⟨rb, 0, none⟩)))
                  (first | exact hX.s0 | exact hX.s4 hne4 _ _ _ _)
                  (first
                    | (go_at_call 132; refine CX.out.mono ?_; rintro e w' ⟨hg, rfl, k5, hR5, hd5, hk5⟩; have hK' := hK.grow hg hR5; clear hK hR5; have hK := hK'; clear hK'; have hX' := hX.step hg; clear hX hg; have hX := hX'; clear hX'; have p0 := hX.rs.c0; have p1 := hX.rs.c1; have p2 := hX.rs.c2; have p3 := hX.rs.c3; have pf0 := hX.rs.ff (i := 0); have pf1 := hX.rs.ff (i := 1); have pf2 := hX.rs.ff (i := 2); have pf3 := hX.rs.ff (i := 3)))
                go_wp2
                refine bodyPost_ret (v := .tuple #[.agg #[.string (B nm), .string (B []), .slice A ats.length ca, .slice K ks.length ck], .int .i64 0]) (by simp [results, Tryz.results103, go_sem, p0, p1, p2, p3]) rfl ?_
                unfold NPost
                rw [HX.out]
                exact ⟨grown_set4 hX.g (by omega), ⟨nm, [], A, ats.length, ca, K, ks.length, ck⟩, rfl, hK.node (fun b hb _ => blk_set4 (by omega)) (by simp), k5, (blk_set4 (by omega)).trans hK.r, hd5, hk5⟩
            · rw [decide_eq_false hend] at CK
              go_wp2_with fail
              refine CK.out.mono ?_
              rintro e w8 ⟨rfl, nq, rfl⟩
              have HPK2 : Hid (pKs (g + 1) (s.toList.drop j2) = if s.toList.drop j2 = [] then .error 4 else match pN g true (s.toList.drop j2) with
                | .error e => .error e
                | .ok (k, r) => match pKs g r with
                  | .error e => .error e
                  | .ok (ks, r') => .ok (k :: ks, r')) := by rw [HPK.out, if_neg hend]; rfl
              clear HPK hend CK
              have hK8 := hK.drewN nq
              by_cases hz : j2 = s.size
              · have HX : Hid (pN (f + 1) kid (s.toList.drop k) = .error 4) := by
                  rw [HP5.out, hr.out, HPK2.out, if_pos (by rw [List.drop_eq_nil_iff, len_toList]; omega)]; rfl
                subst hz
                have b0 := hK.r.c0
                have b1 := hK.r.c1
                have pc := hK.pp.cell
                have d0 : ((s.size : Int) == (s.size : Int)) = true := by simp
                have hB4 := hK.rs
                have hg5 := hK.g
                have p0 := hB4.c0
                have p1 := hB4.c1
                have p2 := hB4.c2
                have p3 := hB4.c3
                have pf0 := hB4.ff (i := 0)
                have pf1 := hB4.ff (i := 1)
                have pf2 := hB4.ff (i := 2)
                have pf3 := hB4.ff (i := 3)
                clear hK HPK2 HP5 hr hB4 hK8
                go_wp2
                go_quiet (fail)
                go_wp2
                refine bodyPost_ret (v := .tuple #[.agg #[.string ⟨#[]⟩, .string ⟨#[]⟩, .slice none 0 0, .slice none 0 0], .int .i64 4]) (by simp [results, Tryz.results103, go_sem, p0, p1, p2, p3]) rfl ?_
                unfold NPost
                rw [HX.out]
                exact ⟨grown_set4 (grown_drewN hg5 _) (by omega), nc0, rfl⟩
              · have hlt3 : j2 < s.size := by omega
                have b0 := hK.r.c0
                have b1 := hK.r.c1
                have pc := hK.pp.cell
                have d0 : ((j2 : Int) == (s.size : Int)) = false := beq_eq_false_iff_ne.2 (by omega)
                have HPK3 : Hid (pKs (g + 1) (s.toList.drop j2) = match pN g true (s.toList.drop j2) with
                  | .error e => .error e
                  | .ok (k, r) => match pKs g r with
                    | .error e => .error e
                    | .ok (ks, r') => .ok (k :: ks, r')) := by rw [HPK2.out, if_neg (by rw [List.drop_eq_nil_iff, len_toList]; omega)]; rfl
                clear HPK2 hz
                go_wp2
                go_quiet (fail)
                have CN := Lib.hid (fun m => HIH.out g (by omega) rb s j2 true _ (hK.drewN m).r hlt3 hs (by omega))
                have hb9 := hK.lb.2
                clear b0 b1 pc d0 hK8
                cases hn : pN g true (s.toList.drop j2) with
                | error x =>
                  have HX : Hid (pN (f + 1) kid (s.toList.drop k) = .error x) := by rw [HP5.out, hr.out, HPK3.out, hn]; rfl
                  have hx0 := pN_err hn
                  have z1 : (x != 0) = true := by simpa using hx0
                  have z2 : (x == 0) = false := by simpa using hx0
                  rw [hn] at CN
                  have pc := hK.pp.cell
                  clear hn HP5 hr HPK3 hx0
                  go_wp2_with fail
                  refine (CN.out _).mono ?_
                  rintro e w9 ⟨hg9, c, rfl⟩
                  have hB4 := (hK.drewN _).rs.grown hg9 (by omega)
                  have hg5 := grown_trans (hK.drewN _).g hg9
                  have p0 := hB4.c0
                  have p1 := hB4.c1
                  have p2 := hB4.c2
                  have p3 := hB4.c3
                  have pf0 := hB4.ff (i := 0)
                  have pf1 := hB4.ff (i := 1)
                  have pf2 := hB4.ff (i := 2)
                  have pf3 := hB4.ff (i := 3)
                  have pl := hB4.lt
                  clear pc hK hg9
                  go_wp2
                  refine bodyPost_ret (v := .tuple #[.agg #[.string ⟨#[]⟩, .string ⟨#[]⟩, .slice none 0 0, .slice none 0 0], .int .i64 x]) (by simp [results, Tryz.results103, go_sem, p0, p1, p2, p3, pl, Nat.ne_of_lt pl]) rfl ?_
                  unfold NPost
                  rw [HX.out]
                  exact ⟨grown_alloc (grown_set4 hg5 (by omega)) _, nc0, rfl⟩
                | ok y =>
                  obtain ⟨nd, l2⟩ := y
                  have HPK4 : Hid (pKs (g + 1) (s.toList.drop j2) = match pKs g l2 with
                    | .error e => .error e
                    | .ok (ks, r') => .ok (nd :: ks, r')) := by rw [HPK3.out, hn]; rfl
                  have hpr : l2.length < s.size - j2 := by
                    have h1 := (pN_some g).1 true _ _ _ hn (by rw [Ne, List.drop_eq_nil_iff, len_toList]; omega)
                    have h2 := congrArg List.length h1.2.1
                    have h3 := List.length_pos_iff.2 (mku_ne nd h1.1)
                    rw [List.length_append, drop_len] at h2
                    omega
                  rw [hn] at CN
                  have pc := hK.pp.cell
                  clear hn HPK3
                  go_wp2_with fail
                  refine (CN.out _).mono ?_
                  rintro e w9 ⟨hg9, c, rfl, hnd, k3, hR3, hd3, hk3⟩
                  subst hd3
                  rw [drop_len] at hpr
                  have hK10 := (hK.drewN _).grow hg9 hR3
                  have hwz := hg9.size
                  simp only [drewN_size] at hwz hnd
                  have hnd2 : NdAt (w9.alloc (.cells #[.string (B c.nm), .string (B c.tx), .slice c.A c.na c.ca, .slice c.K c.nk c.ck] 65)) (fun b => base ≤ b ∧ b < (w9.alloc (.cells #[.string (B c.nm), .string (B c.tx), .slice c.A c.na c.ca, .slice c.K c.nk c.ck] 65)).heap.size ∧ some b ≠ (Value.slice K ks.length ck).ownBlock) nd c :=
                    NdAt.keep (fun b hb => ⟨by omega, by simp; omega, fun e => by have := (hK.own.lt b e.symm).2; omega⟩) (fun b hb => (below_alloc w9 _).block b hb.2) nd c hnd
                  have hK11 := hK10.alloc (.cells #[.string (B c.nm), .string (B c.tx), .slice c.A c.na c.ca, .slice c.K c.nk c.ck] 65)
                  have x3 := hK10.bx.c3
                  have xl := hK10.bx.lt
                  clear hg9 hR3 hnd pc CN
                  go_wp2_with (at_builtin; (refine wpList_app2 rfl (.tmp 130) (.tmp 132) 57 rfl 65 (.agg #[.string ⟨#[]⟩, .string ⟨#[]⟩, .slice none 0 0, .slice none 0 0]) 4 80 Tryz.underlying57 Tryz.infoNode rfl (by omega) (w9.alloc (.cells #[.string (B c.nm), .string (B c.tx), .slice c.A c.na c.ca, .slice c.K c.nk c.ck] 65)) c.cells rfl (by simp [NC.cells]; exact ⟨rfl, rfl, rfl, rfl⟩) base (.slice K ks.length ck) ks.length (cs.flatMap NC.cells) hK11.own rfl ?c4 (by omega) (by omega) hK11.lb.2 ?_))
                  case c4 =>
                    rw [show (w9.alloc (.cells #[.string (B c.nm), .string (B c.tx), .slice c.A c.na c.ca, .slice c.K c.nk c.ck] 65)).heap.size = w9.heap.size + 1 from by simp]
                    rfl
                  intro v' w5 hown5 hg5 hb5 hat5
                  obtain ⟨K2, c2, hv2, hnc2⟩ := own_form hown5
                  subst hv2
                  have hK12 := hK11.app hnd2 hown5 hb5 hg5 (by simpa using hat5)
                  have hbx5 : Bx w5 ob _ := (hb5.block ob (by have := hK11.lb.1; omega)).trans hK11.bx
                  have y2 := hbx5.c3
                  have y3 := hbx5.ff (i := 3)
                  have HRR : Hid (pKs f (s.toList.drop k2) = exA (ks ++ [nd]) (pKs g (s.toList.drop k3))) := by
                    rw [hr.out, HPK4.out]; exact exA_snocN
                  have hkl2 : (ks ++ [nd]).length ≤ k3 := by rw [List.length_append]; show ks.length + 1 ≤ k3; omega
                  clear hown5 hg5 hb5 hat5 hnd2 hK11 hK10 HPK4 hr hbx5 x3 xl
                  go_wp2
                  go_roundw
                  case rel => exact ⟨k3, g, ks ++ [nd], cs ++ [c], K2, c2, hk3, by omega, by omega, by omega, hkl2, hK12, HRR⟩
                  case measure => exact Rx.meas hK.r hK12.r hlt3 (by omega)
      · rw [hem] at CE
        have HP4 : Hid (pN (f + 1) kid (s.toList.drop k) = match pExp [47, 62] (s.toList.drop j) with
            | .error e => .error e
            | .ok r3 => .ok (.mk nm [] ats [], r3)) := by rw [HP3.out, if_pos hem]; rfl
        clear HP3 hem
        go_wp2_with fail
        refine (CE.out _).mono ?_
        rintro e w6 ⟨rfl, rfl⟩
        go_wp2
        have hX := (hK.drewN 1).ex
        have CX := Lib.hid (expect_any rb s j [47, 62] (wc.drewN 1) (hK.drewN 1).r hj hs (by simp))
        cases hx : pExp [47, 62] (s.toList.drop j) with
        | error x =>
          have HX : Hid (pN (f + 1) kid (s.toList.drop k) = .error x) := by rw [HP4.out, hx]; rfl
          rw [hx] at CX
          clear hx HP4 pc hK hE CE
          go_region_held3 (fun w' => w'.cell? ⟨ob, 0, none⟩ = some (.string (B nm)) ∧ w'.cell? ⟨ob, 1, none⟩ = some (.string (B [])) ∧ w'.cell? ⟨ob, 2, none⟩ = some (.slice A ats.length ca) ∧ w'.cell? ⟨ob, 3, none⟩ = some (.slice none 0 0) ∧ w'.cell? ⟨w.heap.size, 0, none⟩ = some (.pointer (some ⟨rb, 0, none⟩)))
            (first | exact hX.s0 | exact hX.s4 hne4 _ _ _ _)
            (first
              | (go_at_call 132; refine CX.out.mono ?_; rintro e w' ⟨hg, rfl⟩; have hX' := hX.step hg; clear hX hg; have hX := hX'; clear hX'; have p0 := hX.rs.c0; have p1 := hX.rs.c1; have p2 := hX.rs.c2; have p3 := hX.rs.c3; have pf0 := hX.rs.ff (i := 0); have pf1 := hX.rs.ff (i := 1); have pf2 := hX.rs.ff (i := 2); have pf3 := hX.rs.ff (i := 3)))
          go_wp2
          refine bodyPost_ret (v := .tuple #[.agg #[.string (B nm), .string (B []), .slice A ats.length ca, .slice none 0 0], .int .i64 x]) (by simp [results, Tryz.results103, go_sem, p0, p1, p2, p3]) rfl ?_
          unfold NPost
          rw [HX.out]
          exact ⟨grown_set4 hX.g (by omega), ⟨nm, [], A, ats.length, ca, none, 0, 0⟩, rfl⟩
        | ok r3 =>
          have HX : Hid (pN (f + 1) kid (s.toList.drop k) = .ok (.mk nm [] ats [], r3)) := by rw [HP4.out, hx]; rfl
          rw [hx] at CX
          have hK0 := hK.drewN 1
          clear hx HP4 pc hK hE CE
          have hK := hK0
          clear hK0
          go_region_held3 (fun w' => w'.cell? ⟨ob, 0, none⟩ = some (.string (B nm)) ∧ w'.cell? ⟨ob, 1, none⟩ = some (.string (B [])) ∧ w'.cell? ⟨ob, 2, none⟩ = some (.slice A ats.length ca) ∧ w'.cell? ⟨ob, 3, none⟩ = some (.slice none 0 0) ∧ w'.cell? ⟨w.heap.size, 0, none⟩ = some (.pointer (some ⟨rb, 0, none⟩)))
            (first | exact hX.s0 | exact hX.s4 hne4 _ _ _ _)
            (first
              | (go_at_call 132; refine CX.out.mono ?_; rintro e w' ⟨hg, rfl, k2, hR2, hd2, hk2⟩; have hK' := hK.grow hg hR2; clear hK hR2; have hK := hK'; clear hK'; have hX' := hX.step hg; clear hX hg; have hX := hX'; clear hX'; have p0 := hX.rs.c0; have p1 := hX.rs.c1; have p2 := hX.rs.c2; have p3 := hX.rs.c3; have pf0 := hX.rs.ff (i := 0); have pf1 := hX.rs.ff (i := 1); have pf2 := hX.rs.ff (i := 2); have pf3 := hX.rs.ff (i := 3)))
          go_wp2
          refine bodyPost_ret (v := .tuple #[.agg #[.string (B nm), .string (B []), .slice A ats.length ca, .slice none 0 0], .int .i64 0]) (by simp [results, Tryz.results103, go_sem, p0, p1, p2, p3]) rfl ?_
          unfold NPost
          rw [HX.out]
          exact ⟨grown_set4 hX.g (by omega), ⟨nm, [], A, ats.length, ca, none, 0, 0⟩, rfl, hK.node (fun b hb _ => blk_set4 (by omega)) (by simp), k2, (blk_set4 (by omega)).trans hK.r, hd2, hk2⟩
end Go.Proofs.YtejjidbodfoiiaaGreatDoor
