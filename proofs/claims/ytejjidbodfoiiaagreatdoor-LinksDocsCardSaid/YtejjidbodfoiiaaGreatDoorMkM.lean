/-
  Layer 33 (markup): write and Text.
-/
import Derived.Test.YtejjidbodfoiiaaGreatDoorMkI
import Derived.Test.YtejjidbodfoiiaaGreatDoorMkKL
import Derived.Deep.RegionHeld3
import Derived.Deep.DrawnRows
namespace Go.Proofs.YtejjidbodfoiiaaGreatDoor
open Go.RowKit
set_option linter.unusedVariables false
set_option linter.unusedSimpArgs false
attribute [local go_sem] B_data B_size
attribute [local go_sem ↓] Go.wp_at_zero Go.wp_at_succ

theorem BuilderAtF_below {T e : TypeId} {B b : Nat} {p : Value} {bs : List Value} {w w' : World} (h : Lib.BuilderAtF T e B b p bs w) (hb : Below w.heap.size w w') : Lib.BuilderAtF T e B b p bs w' := by
  obtain ⟨hB, v, hbk, hown, hne⟩ := h
  refine ⟨hB, v, (hb.block b (Array.getElem?_eq_some_iff.1 hbk).1).trans hbk, ?_, hne⟩
  exact hown.kept (grown_of_below hb none) (by cases hv : v.ownBlock <;> simp)
theorem Bd.below {w w' : World} {b : Nat} {l : List UInt8} (h : Bd w b l) (hb : Below w.heap.size w w') : Bd w' b l := by
  rcases h with h | h
  · exact .inl (BuilderAtF_below h hb)
  · exact .inr (BuilderAtF_below h hb)
/-- a block that is no row of bytes is kept by a builder -/
theorem kept_cell {b : Nat} {w w' : World} (h : Bkeep b w w') {k : Nat} {C : Array Value} {t : TypeId} (hk : w.heap[k]? = some (.cells C t (0, 0))) (hne : k ≠ b) (ht : t ≠ 5) : w'.heap[k]? = some (.cells C t (0, 0)) :=
  h.2 k _ hk (fun e => hne (Option.some.inj e)) (fun c fz e => by injection e with _ e2 _; exact ht e2)
theorem keep_below {b : Nat} {w w' : World} (hb : Below w.heap.size w w') (hlt : b < w.heap.size) : Bkeep b w w' :=
  ⟨hb.mono (Nat.le_of_lt hlt), fun k o hk _ _ => (hb.block k (Array.getElem?_eq_some_iff.1 hk).1).trans hk⟩
theorem Bx.keep {b k : Nat} {w w' : World} {c : NC} (h : Bx w k c) (hk : Bkeep b w w') (hne : k ≠ b) : Bx w' k c := kept_cell hk h hne (by decide)
mutual
/-- how much the markup of a node takes at most -/
def szN : Nd → Nat
  | .mk nm tx ats ks => 10 + 2 * nm.length + 6 * tx.length + (mkAs ats).length + szL ks
def szL : List Nd → Nat
  | [] => 0
  | k :: r => szN k + szL r
end
theorem szL_mem {ks : List Nd} {k : Nd} (h : k ∈ ks) : szN k ≤ szL ks := by
  induction ks with
  | nil => cases h
  | cons a r ih =>
    rw [szL]
    rcases List.mem_cons.1 h with rfl | h
    · omega
    · have := ih h; omega
theorem mku_sz : ∀ n, (mku n).length ≤ szN n := by
  refine Nd.ind ?_
  intro nm tx ats ks IH
  have hL : (mkuL ks).length ≤ szL ks := by
    clear tx ats
    induction ks with
    | nil => rw [mkuL, szL]; simp
    | cons a r ih =>
      rw [mkuL, szL, List.length_append]
      have := IH a (List.mem_cons_self ..)
      have := ih (fun k hk => IH k (List.mem_cons_of_mem _ hk))
      omega
  rw [mku, szN]
  have := esc_len6 tx
  split
  · omega
  · split <;> simp only [List.length_append, List.length_cons, List.length_nil] <;> omega
theorem mkuL_take {ks : List Nd} {j : Nat} {k : Nd} (h : ks[j]? = some k) : mkuL (ks.take (j + 1)) = mkuL (ks.take j) ++ mku k := by
  have key : ∀ (a b : List Nd), mkuL (a ++ b) = mkuL a ++ mkuL b := by
    intro a b
    induction a with
    | nil => rw [mkuL]; rfl
    | cons x r ih => rw [List.cons_append, mkuL, mkuL, ih, List.append_assoc]
  obtain ⟨hj, e⟩ := List.getElem?_eq_some_iff.1 h
  rw [List.take_succ_eq_append_getElem hj, key, e, mkuL, mkuL, List.append_nil]
theorem mkuL_sz (ks : List Nd) (j : Nat) : (mkuL (ks.take j)).length ≤ szL ks := by
  induction ks generalizing j with
  | nil => simp [mkuL]
  | cons a r ih =>
    cases j with
    | zero => simp [mkuL]
    | succ j => rw [List.take_succ_cons, mkuL, szL, List.length_append]; have := ih j; have := mku_sz a; omega
theorem szL_take {ks : List Nd} {j : Nat} {k : Nd} (h : ks[j]? = some k) : (mkuL (ks.take j)).length + szN k ≤ szL ks := by
  induction ks generalizing j with
  | nil => simp at h
  | cons a r ih =>
    cases j with
    | zero =>
      have e : a = k := by simpa using h
      subst e
      rw [List.take_zero, mkuL, szL]; simp
    | succ j =>
      have := ih (j := j) (by simpa using h)
      have := mku_sz a
      rw [List.take_succ_cons, mkuL, szL, List.length_append]; omega
theorem mkAs_take {ats : List (List UInt8 × List UInt8)} {j : Nat} {p : List UInt8 × List UInt8} (h : ats[j]? = some p) : mkAs (ats.take (j + 1)) = mkAs (ats.take j) ++ ([32] ++ p.1 ++ [61, 34] ++ esc p.2 ++ [34]) := by
  obtain ⟨hj, e⟩ := List.getElem?_eq_some_iff.1 h
  rw [List.take_succ_eq_append_getElem hj, e]
  simp [mkAs]
theorem mkAs_le (ats : List (List UInt8 × List UInt8)) (j : Nat) : (mkAs (ats.take j)).length ≤ (mkAs ats).length := by
  have : mkAs ats = mkAs (ats.take j) ++ mkAs (ats.drop j) := by
    simp only [mkAs, ← List.flatMap_append, List.take_append_drop]
  rw [this, List.length_append]; omega
/-- the builder at block b was given bytes more -/
def WPost (b : Nat) (L : List UInt8) (w : World) (e : Ending) (w' : World) : Prop := e = .returned (.tuple #[]) ∧ Bd w' b L ∧ Bkeep b w w'
theorem B_app (a b : List UInt8) : B a ++ B b = B (a ++ b) := by
  apply ByteArray.ext
  rw [ByteArray.data_append]
  simp [B]
theorem str_add {P : Program} (a b : ByteArray) (w : World) (h : a.size + b.size ≤ 9223372036854775807) : (Op.stringOp .add a b).run P w = .ok (.string (a ++ b)) w := by
  unfold Op.stringOp
  simp only [ByteArray.size_append]
  rw [if_neg (by simp only [show IntKind.i64.max = 9223372036854775807 from rfl]; omega)]
  rfl
theorem cat_step (X Y : List UInt8) (x y : ByteArray) (hx : x = B X) (hy : y = B Y) (h : X.length + Y.length ≤ 9000000000000) :
    ∃ Z, Z = X ++ Y ∧ Z.length = X.length + Y.length ∧ ∀ W, (Op.stringOp .add x y).run Tryz.prog W = .ok (.string (B Z)) W := by
  subst hx hy
  refine ⟨_, rfl, by simp, fun W => ?_⟩
  rw [str_add _ _ _ (by rw [B_size, B_size]; omega), B_app]
theorem NdB.kept {w w' : World} {M b : Nat} {n : Nd} {c : NC} (h : NdB w M n c) (hk : Bkeep b w w') (hM : M ≤ b) : NdB w' M n c := h.below (hk.1.mono hM)
theorem Rd.kept {w w' : World} {M b sz n : Nat} {A : Option Addr} {xs : List Value} (h : Rd w M sz A n xs) (hk : Bkeep b w w') (hM : M ≤ b) : Rd w' M sz A n xs := h.below (hk.1.mono hM)
theorem pair_new (w : World) (k v : List UInt8) : (w.alloc (.cells #[.string (B k), .string (B v)] 71)).heap[w.heap.size]? = some (.cells #[.string (B k), .string (B v)] 71 (0, 0)) := heap_alloc_new w _
/-- what is known while an attribute is written -/
structure WI (w : World) (b : Nat) (L : List UInt8) (c : NC) (pb : Nat) (k v : List UInt8) (W : World) : Prop where
  d : Bd W b L
  kp : Bkeep b w W
  x : Bx W w.heap.size c
  p : W.heap[pb]? = some (.cells #[.string (B k), .string (B v)] 71 (0, 0))
theorem WI.step {w W w' : World} {b pb : Nat} {L k v : List UInt8} {c : NC} (h : WI w b L c pb k v W) (hb : Below W.heap.size W w') : WI w b L c pb k v w' :=
  ⟨h.d.below hb, h.kp.trans (keep_below hb h.d.lt), h.x.below hb h.x.lt, (hb.block pb (Array.getElem?_eq_some_iff.1 h.p).1).trans h.p⟩
theorem WI.c0 {w W : World} {b pb : Nat} {L k v : List UInt8} {c : NC} (h : WI w b L c pb k v W) : W.cell? ⟨pb, 0, none⟩ = some (.string (B k)) := by simp [World.cell?, h.p]
theorem WI.c1 {w W : World} {b pb : Nat} {L k v : List UInt8} {c : NC} (h : WI w b L c pb k v W) : W.cell? ⟨pb, 1, none⟩ = some (.string (B v)) := by simp [World.cell?, h.p]
theorem WI.put {w W w' : World} {b pb : Nat} {L L' k v : List UInt8} {c : NC} (h : WI w b L c pb k v W) (hd : Bd w' b L') (hk : Bkeep b W w') (h1 : w.heap.size ≠ b) (h2 : pb ≠ b) : WI w b L' c pb k v w' :=
  ⟨hd, h.kp.trans hk, h.x.keep hk h1, kept_cell hk h.p h2 (by decide)⟩
set_option maxHeartbeats 8000000 in
set_option maxRecDepth 100000 in
theorem write_any : ∀ (n : Nd) (c : NC) (b : Nat) (L : List UInt8) (w : World), NdB w b n c → okN 1000000000 n → Bd w b L → L.length + szN n ≤ 100000000000 →
    Calls Tryz.prog 68 #[.pointer (some ⟨b, 0, none⟩), .agg #[.string (B c.nm), .string (B c.tx), .slice c.A c.na c.ca, .slice c.K c.nk c.ck]] w (WPost b (L ++ mku n) w) := by
  refine Nd.ind ?_
  intro nm tx ats ks IH c b L w h hok hbd hsz
  obtain ⟨e1, e2, hA, cs, hK, hkc, hks⟩ := h.parts
  obtain ⟨o1, o2, o3, o4, o5, o6⟩ := hok.parts
  obtain ⟨nm', tx', A, na, ca, K, nk, ck⟩ := c
  have e1 : nm' = nm := e1
  have e2 : tx' = tx := e2
  subst e1 e2
  have hA : Rd w b 2 A na (ats.flatMap prF) := hA
  have hK : Rd w b 4 K nk (cs.flatMap NC.cells) := hK
  have hna : ats.length = na := hA.count prF 2 prF_len (by omega)
  have hnk : cs.length = nk := hK.count NC.cells 4 NC.cells_len (by omega)
  rw [hna] at o3
  rw [hkc, hnk] at o4
  have HNA := Lib.hid hna
  have HNK := Lib.hid (hkc.trans hnk)
  have hblt := hbd.lt
  rw [szN] at hsz
  have hel := esc_len6 tx'
  have HE : Hid (mku (.mk nm' tx' ats ks) = if nm' = [] then esc tx' else if emptyB nm' = true then [60] ++ nm' ++ mkAs ats ++ [47, 62] else [60] ++ nm' ++ mkAs ats ++ [62] ++ mkuL ks ++ [60, 47] ++ nm' ++ [62]) := by rw [mku]; rfl
  have HKS := Lib.hid hks
  have HIH := Lib.hid IH
  have HOK := Lib.hid o6
  have HO5 := Lib.hid o5
  have HML := Lib.hid (fun j => mkAs_le ats j)
  have HKL := Lib.hid (fun j => mkuL_sz ks j)
  have HKM := Lib.hid (fun k (hk : k ∈ ks) => szL_mem hk)
  have HB := Bx.new w ⟨nm', tx', A, na, ca, K, nk, ck⟩
  have hkW : Bkeep b w (w.alloc (.cells #[.string (B nm'), .string (B tx'), .slice A na ca, .slice K nk ck] 65)) := keep_below (below_alloc w _) hblt
  have hbdW := hbd.alloc (.cells #[.string (B nm'), .string (B tx'), .slice A na ca, .slice K nk ck] 65)
  clear hna hkc hnk hks IH h hok o5 o6 hbd
  by_cases h0 : nm' = []
  · subst h0
    have HX : Hid (mku (.mk [] tx' ats ks) = esc tx') := by rw [HE.out, if_pos rfl]; rfl
    clear HE
    go_enter Tryz.func68, Tryz.ntmps68
    go_wp2_with fail
    refine (escape_any (B tx') _ (by rw [B_size]; omega)).mono ?_
    rintro e w1 ⟨rfl, hb1⟩
    rw [B_data]
    have hk1 := keep_below hb1 hbdW.lt
    have hbd1 := hbdW.below hb1
    clear hb1
    go_wp2_with fail
    refine (writeString_any b L (B (esc tx')) _ hbd1 (by rw [B_size]; omega)).mono ?_
    rintro e w2 ⟨rfl, hd2, hk2⟩
    rw [B_data, ← HX.out] at hd2
    have hk3 := (hkW.trans hk1).trans hk2
    go_wp2
    go_end0
    exact ⟨rfl, hd2, hk3⟩
  have n1 : (nm' == []) = false := by simpa using h0
  have n2 : nm'.isEmpty = false := by simpa using h0
  have HE2 : Hid (mku (.mk nm' tx' ats ks) = if emptyB nm' = true then [60] ++ nm' ++ mkAs ats ++ [47, 62] else [60] ++ nm' ++ mkAs ats ++ [62] ++ mkuL ks ++ [60, 47] ++ nm' ++ [62]) := by rw [HE.out, if_neg h0]; rfl
  clear HE h0
  go_enter Tryz.func68, Tryz.ntmps68
  go_wp2_with fail
  refine (writeString_any b L (B ([60] ++ nm')) _ hbdW (by rw [B_size]; simp only [List.length_append, List.length_cons, List.length_nil]; omega)).mono ?_
  rintro e w1 ⟨rfl, hd1, hk1⟩
  rw [B_data] at hd1
  have hk2 := hkW.trans hk1
  have HB2 := HB.keep hk1 (by omega)
  clear HB hkW hk1 hbdW
  have b0 := HB2.c0
  have b2 := HB2.c2
  have hlA : (L ++ ([60] ++ nm')).length = L.length + 1 + nm'.length := by simp; omega
  have HLA := Lib.hid hlA
  clear hlA
  generalize hLg : L ++ ([60] ++ nm') = L1 at *
  have HLG := Lib.hid hLg
  clear hLg
  have hl1 : L1.length ≤ L.length + 1 + nm'.length := by rw [HLA.out]; omega
  go_wp2
  go_loopw [24] (fun i wr => ∃ j : Nat, j ≤ na ∧ i = .int .i64 j ∧ Bd wr b (L1 ++ mkAs (ats.take j)) ∧ Bkeep b w wr ∧ Bx wr w.heap.size ⟨nm', tx', A, na, ca, K, nk, ck⟩) (fun i _ => na - (intOf i).toNat)
  case atStart => exact ⟨0, Nat.zero_le _, rfl, by simpa [mkAs] using hd1, hk2, HB2⟩
  case round =>
    obtain ⟨j, hj, rfl, hbd, hkw, HBw⟩ := hrel
    have hws := HBw.lt
    have hml := HML.out j
    by_cases hlt : j < na
    · obtain ⟨p, hp⟩ := get_of (l := ats) (k := j) (by rw [HNA.out]; exact hlt)
      obtain ⟨bb, o, rfl, hbm, hcell⟩ := (hA.kept hkw (Nat.le_refl _)).elem prF 2 prF_len (by omega) hp
      have hpl := HO5.out p (List.mem_of_getElem? hp)
      have HT := Lib.hid (mkAs_take hp)
      have hml2 := HML.out (j + 1)
      obtain ⟨k, v⟩ := p
      obtain ⟨hp1, hp2⟩ := hpl
      have hp1 : k.length ≤ 1000000000 := hp1
      have hp2 : v.length ≤ 1000000000 := hp2
      have hel2 := esc_len6 v
      have c0 : wr.cell? ⟨bb, o + j * 2, none⟩ = some (.string (B k)) := hcell 0 _ rfl
      have c1 : wr.cell? ⟨bb, o + j * 2 + 1, none⟩ = some (.string (B v)) := hcell 1 _ rfl
      have hpn := pair_new wr k v
      have HPN := Lib.hid hpn
      have hbd1 := hbd.alloc (.cells #[.string (B k), .string (B v)] 71)
      have HB1 := HBw.alloc (.cells #[.string (B k), .string (B v)] 71)
      have hk3 := hkw.trans (keep_below (below_alloc wr (.cells #[.string (B k), .string (B v)] 71)) hbd.lt)
      have hD : WI w b (L1 ++ mkAs (ats.take j)) ⟨nm', tx', some ⟨bb, o, none⟩, na, ca, K, nk, ck⟩ wr.heap.size k v (wr.alloc (.cells #[.string (B k), .string (B v)] 71)).drew := ⟨hbd1.drewN 1, hk3.drewN 1, HB1, hpn⟩
      have hwb : wr.heap.size ≠ b := by have := hbd.lt; omega
      have hwb2 : w.heap.size ≠ b := by omega
      have hat : (L1 ++ mkAs (ats.take j)).length + ([32] ++ k ++ [61, 34] ++ esc v ++ [34]).length ≤ 100000000000 := by
        have := HT.out
        have e := congrArg List.length this
        simp only [List.length_append] at e hml hml2 ⊢
        omega
      have HT2 : Hid (L1 ++ mkAs (ats.take j) ++ ([32] ++ k ++ [61, 34] ++ esc v ++ [34]) = L1 ++ mkAs (ats.take (j + 1))) := by rw [HT.out, List.append_assoc]; rfl
      clear hcell hpn hbd HBw hbd1 HB1 hk3 HPN HT
      generalize L1 ++ mkAs (ats.take j) = L2 at *
      generalize hev : esc v = ev at *
      have HEV := Lib.hid hev
      clear hev
      obtain ⟨Z1, eZ1, lZ1, qZ1⟩ := cat_step [32] k ⟨#[32]⟩ (B k) rfl rfl (by simp only [List.length]; omega)
      obtain ⟨Z2, eZ2, lZ2, qZ2⟩ := cat_step Z1 [61, 34] (B Z1) ⟨#[61, 34]⟩ rfl rfl (by rw [lZ1]; simp only [List.length]; omega)
      obtain ⟨Z3, eZ3, lZ3, qZ3⟩ := cat_step Z2 ev (B Z2) (B ev) rfl rfl (by rw [lZ2, lZ1]; simp only [List.length]; omega)
      obtain ⟨Z4, eZ4, lZ4, qZ4⟩ := cat_step Z3 [34] (B Z3) ⟨#[34]⟩ rfl rfl (by rw [lZ3, lZ2, lZ1]; simp only [List.length]; omega)
      have HZ : Hid (Z4 = [32] ++ k ++ [61, 34] ++ ev ++ [34]) := by rw [eZ4, eZ3, eZ2, eZ1]; rfl
      have HAT : Hid (L2.length + Z4.length ≤ 140737488355328) := by rw [HZ.out]; unfold Hid; omega
      clear hat eZ1 eZ2 eZ3 eZ4 lZ1 lZ2 lZ3 lZ4
      go_wp2
      go_region_held3 (fun w' => w'.cell? ⟨wr.heap.size, 0, none⟩ = some (.string (B k)) ∧ w'.cell? ⟨wr.heap.size, 1, none⟩ = some (.string (B v)))
        (first | exact ⟨hD.c0, hD.c1⟩)
        (first
          | (go_at_call 102; refine (escape_any (B v) _ (by rw [B_size]; omega)).mono ?_; rintro e w' ⟨rfl, hb⟩; rw [B_data, HEV.out]; have hD' := hD.step hb; clear hD hb; have hD := hD'; clear hD')
          | (go_at_call 101; refine (writeString_any b L2 (B Z4) _ hD.d (by rw [B_size]; exact HAT.out)).mono ?_; rintro e w' ⟨rfl, hd', hkp⟩; rw [B_data] at hd'; have hD' := hD.put hd' hkp hwb2 hwb; clear hD hd' hkp; have hD := hD'; clear hD'))
      rw [HZ.out, HT2.out] at hD
      have hD1 := hD.d
      have hD2 := hD.kp
      have hD3 := hD.x
      clear hD
      go_wp2
      go_roundw
      case rel => exact ⟨j + 1, by omega, by go_num, hD1, hD2, hD3⟩
      case measure => simp [intOf]; omega
    · have HF : Hid (L1 ++ mkAs (ats.take j) = L1 ++ mkAs ats) := by rw [List.take_of_length_le (by rw [HNA.out]; omega)]; rfl
      rw [HF.out] at hbd
      have hlM : (L1 ++ mkAs ats).length = L1.length + (mkAs ats).length := by simp
      have HLM := Lib.hid hlM
      have b0 := HBw.c0
      have b3 := HBw.c3
      cases hem : emptyB nm'
      · have HX : Hid (L ++ mku (.mk nm' tx' ats ks) = L1 ++ mkAs ats ++ [62] ++ mkuL ks ++ ([60, 47] ++ nm' ++ [62])) := by rw [HE2.out, if_neg (by simp [hem]), ← HLG.out]; simp [Hid]
        clear HE2 hlM hml
        generalize L1 ++ mkAs ats = L2 at *
        have hl2 : L2.length ≤ L.length + 1 + nm'.length + (mkAs ats).length := by rw [HLM.out]; omega
        go_wp2_with fail
        refine (isEmpty_any (B nm') _).mono ?_
        rintro e w2 ⟨rfl, rfl⟩
        rw [B_data, hem]
        go_wp2_with fail
        refine (writeString_any b L2 (B [62]) _ hbd (by rw [B_size]; simp only [List.length]; omega)).mono ?_
        rintro e w2 ⟨rfl, hd2, hk2'⟩
        rw [B_data] at hd2
        have hk4 := hkw.trans hk2'
        have HB4 := HBw.keep hk2' (by omega)
        clear hbd hkw HBw hk2' b0 b3 HB2 hk2 hd1
        have b0 := HB4.c0
        have b3 := HB4.c3
        go_wp2
        rename World => wo
        go_loopw [50] (fun i wr => ∃ j : Nat, j ≤ nk ∧ i = .int .i64 j ∧ Bd wr b (L2 ++ [62] ++ mkuL (ks.take j)) ∧ Bkeep b w wr ∧ Bx wr w.heap.size ⟨nm', tx', A, na, ca, K, nk, ck⟩) (fun i _ => nk - (intOf i).toNat)
        case atStart => exact ⟨0, Nat.zero_le _, rfl, by simpa [mkuL] using hd2, hk4, HB4⟩
        case round =>
          obtain ⟨t, ht, rfl, hbd, hkw, HBw⟩ := hrel
          have hws := HBw.lt
          have hkl := HKL.out t
          by_cases hlt2 : t < nk
          · obtain ⟨kd, hkd⟩ := get_of (l := ks) (k := t) (by rw [HNK.out]; exact hlt2)
            obtain ⟨kc, hkc, hkn⟩ := HKS.out t kd hkd
            obtain ⟨bb, o, rfl, hbm, hcell⟩ := (hK.kept hkw (Nat.le_refl _)).elem NC.cells 4 NC.cells_len (by omega) hkc
            have HT := Lib.hid (mkuL_take hkd)
            have hkl2 := HKL.out (t + 1)
            have hmm := List.mem_of_getElem? hkd
            have hksz := HKM.out kd hmm
            have g0 : wr.cell? ⟨bb, o + t * 4, none⟩ = some (.string (B kc.nm)) := hcell 0 _ rfl
            have g1 : wr.cell? ⟨bb, o + t * 4 + 1, none⟩ = some (.string (B kc.tx)) := hcell 1 _ rfl
            have g2 : wr.cell? ⟨bb, o + t * 4 + 2, none⟩ = some (.slice kc.A kc.na kc.ca) := hcell 2 _ rfl
            have g3 : wr.cell? ⟨bb, o + t * 4 + 3, none⟩ = some (.slice kc.K kc.nk kc.ck) := hcell 3 _ rfl
            have hal := keep_below (below_alloc wr (.cells #[.string (B kc.nm), .string (B kc.tx), .slice kc.A kc.na kc.ca, .slice kc.K kc.nk kc.ck] 65)) hbd.lt
            have hbd1 := hbd.alloc (.cells #[.string (B kc.nm), .string (B kc.tx), .slice kc.A kc.na kc.ca, .slice kc.K kc.nk kc.ck] 65)
            have HB1 := HBw.alloc (.cells #[.string (B kc.nm), .string (B kc.tx), .slice kc.A kc.na kc.ca, .slice kc.K kc.nk kc.ck] 65)
            have hk3 := hkw.trans hal
            have hkB := (hkn.kept hk3 (Nat.le_refl _))
            have hszk : (L2 ++ [62] ++ mkuL (ks.take t)).length + szN kd ≤ 100000000000 := by
              simp only [List.length_append, List.length_cons, List.length_nil]
              have hks2 : (mkuL (ks.take t)).length + szN kd ≤ szL ks := szL_take hkd
              omega
            have C := Lib.hid (HIH.out kd hmm kc b (L2 ++ [62] ++ mkuL (ks.take t)) _ hkB (HOK.out kd hmm) hbd1 hszk)
            have HT2 : Hid (L2 ++ [62] ++ mkuL (ks.take t) ++ mku kd = L2 ++ [62] ++ mkuL (ks.take (t + 1))) := by rw [HT.out]; simp [Hid]
            clear hcell hkB hszk hbd hkw HBw hal HT hbd1
            go_wp2_with fail
            refine C.out.mono ?_
            rintro e w5 ⟨rfl, hd5, hk5⟩
            rw [HT2.out] at hd5
            have hk6 := hk3.trans hk5
            have HB6 := HB1.keep hk5 (by omega)
            clear C
            go_wp2
            go_roundw
            case rel => exact ⟨t + 1, by omega, by go_num, hd5, hk6, HB6⟩
            case measure => simp [intOf]; omega
          · have HF2 : Hid (L2 ++ [62] ++ mkuL (ks.take t) = L2 ++ [62] ++ mkuL ks) := by rw [List.take_of_length_le (by rw [HNK.out]; omega)]; rfl
            rw [HF2.out] at hbd
            have hkl2 := HKL.out nk
            rw [List.take_of_length_le (by rw [HNK.out]; omega)] at hkl2
            have b0 := HBw.c0
            go_wp2_with fail
            refine (writeString_any b (L2 ++ [62] ++ mkuL ks) (B ([60, 47] ++ nm' ++ [62])) _ hbd (by rw [B_size]; simp only [List.length_append, List.length_cons, List.length_nil]; omega)).mono ?_
            rintro e w5 ⟨rfl, hd5, hk5⟩
            rw [B_data, ← HX.out] at hd5
            have hk6 := hkw.trans hk5
            go_wp2
            go_end0
            exact ⟨rfl, hd5, hk6⟩
      · have HX : Hid (L ++ mku (.mk nm' tx' ats ks) = L1 ++ mkAs ats ++ [47, 62]) := by rw [HE2.out, if_pos hem, ← HLG.out]; simp [Hid]
        clear HE2 hlM hml
        generalize L1 ++ mkAs ats = L2 at *
        have hl2 : L2.length ≤ L.length + 1 + nm'.length + (mkAs ats).length := by rw [HLM.out]; omega
        go_wp2_with fail
        refine (isEmpty_any (B nm') _).mono ?_
        rintro e w2 ⟨rfl, rfl⟩
        rw [B_data, hem]
        go_wp2_with fail
        refine (writeString_any b L2 (B [47, 62]) _ hbd (by rw [B_size]; simp only [List.length]; omega)).mono ?_
        rintro e w2 ⟨rfl, hd2, hk2'⟩
        rw [B_data, ← HX.out] at hd2
        have hk4 := hkw.trans hk2'
        go_wp2
        go_end0
        exact ⟨rfl, hd2, hk4⟩
def TPost (n : Nd) (w : World) (e : Ending) (w' : World) : Prop := e = .returned (.tuple #[.string (B (if chk n = 0 then mku n else [])), .int .i64 (chk n)]) ∧ Below w.heap.size w w'
set_option maxHeartbeats 4000000 in
set_option maxRecDepth 100000 in
theorem text_any (n : Nd) (c : NC) (w : World) (h : NdB w w.heap.size n c) (hok : okN 1000000000 n) (hsz : szN n ≤ 1000000000) :
    Calls Tryz.prog 41 #[.agg #[.string (B c.nm), .string (B c.tx), .slice c.A c.na c.ca, .slice c.K c.nk c.ck]] w (TPost n w) := by
  have HB := Bx.new w c
  have hbW := below_alloc w (.cells #[.string (B c.nm), .string (B c.tx), .slice c.A c.na c.ca, .slice c.K c.nk c.ck] 65)
  have hW := (h.below hbW).more hbW.size
  have C := Lib.hid (check_any n c _ hW hok)
  go_enter Tryz.func41, Tryz.ntmps41
  go_wp2_with fail
  refine C.out.mono ?_
  rintro e w1 ⟨rfl, hb1⟩
  have hB1 := hbW.trans (hb1.mono hbW.size)
  have HB1 := HB.below hb1 HB.lt
  have h1 := (h.below hB1).more hB1.size
  clear C HB hbW hW hb1
  by_cases hc : chk n = 0
  · have HR : Hid (Ending.returned (.tuple #[.string (B (mku n)), .int .i64 0]) = .returned (.tuple #[.string (B (if chk n = 0 then mku n else [])), .int .i64 (chk n)])) := by rw [if_pos hc, hc]; rfl
    rw [hc]
    clear hc
    have b0 := HB1.c0
    have b1 := HB1.c1
    have b2 := HB1.c2
    have b3 := HB1.c3
    have hlt1 := HB1.lt
    have hbd : Bd (w1.alloc (.cells #[.pointer none, .slice none 0 0] 110)) w1.heap.size [] := Bd.new w1
    have hB2 := hB1.alloc hB1.size (.cells #[.pointer none, .slice none 0 0] 110)
    have h2 : NdB (w1.alloc (.cells #[.pointer none, .slice none 0 0] 110)) w1.heap.size n c := h1.below (below_alloc w1 _)
    have C := Lib.hid (write_any n c w1.heap.size [] _ h2 hok hbd (by simp; omega))
    clear h2 hbd
    go_wp2_with fail
    refine C.out.mono ?_
    rintro e w3 ⟨rfl, hd3, hk3⟩
    clear C
    go_wp2_with fail
    refine (string_any w1.heap.size _ _ hd3).mono ?_
    rintro e w4 ⟨rfl, hd4, hk4⟩
    have hB4 := (hB2.trans (hk3.1.mono hB1.size)).trans (hk4.1.mono hB1.size)
    go_wp2
    go_ret2
    exact ⟨HR.out, hB4⟩
  · have HR : Hid (Ending.returned (.tuple #[.string (B []), .int .i64 (chk n)]) = .returned (.tuple #[.string (B (if chk n = 0 then mku n else [])), .int .i64 (chk n)])) := by rw [if_neg hc]; rfl
    generalize hcg : chk n = x at *
    have z1 : (x != 0) = true := by simpa using hc
    have z2 : (x == 0) = false := by simpa using hc
    have HCG := Lib.hid hcg
    clear hc hcg
    go_wp2
    go_ret2
    refine ⟨?_, hB1⟩
    rw [HCG.out]
    exact HR.out
end Go.Proofs.YtejjidbodfoiiaaGreatDoor
