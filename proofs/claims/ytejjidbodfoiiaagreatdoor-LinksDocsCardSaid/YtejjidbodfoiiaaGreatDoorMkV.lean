/-
  Layer 33 (markup): Values, the program's.
-/
import Derived.Test.YtejjidbodfoiiaaGreatDoorMkN
import Derived.Laws.EntriesVeiled
namespace Go.Proofs.YtejjidbodfoiiaaGreatDoor
open Go.RowKit
set_option linter.unusedVariables false
set_option linter.unusedSimpArgs false
attribute [local go_sem] B_data B_size

/-- One element appended to a row of the call's own; where the row lies. -/
theorem wpList_app2 {P : Program} {ops : Array Oper} {rest : List Oper} {o : Oper} {a : Act} {Q : Exit → Act → World → Prop} (hgd : o.guard = none) (s x : Operand) (t : TypeId)
    (ho : o.op = .call { callee := .builtin .append, args := #[s, x], argTypes := #[t, t] })
    (e : TypeId) (z : Value) (sz bytes : Nat) (ht : P.underlying t = some (.slice e)) (hinf : (P.info? e).map (fun i => (i.zero, i.size, i.bytes)) = some (some z, sz, bytes))
    (hzs : z.cells.size = sz) (hsz : 0 < sz) (wr : World) (us : List Value) (hl : us.length = sz) (hu : ∀ u ∈ us, u.oneCell' = true)
    (base : Nat) (v : Value) (n : Nat) (xs : List Value) (hown : wr.ownsRow base e sz v n xs) (hs : a.eval s = v) (hx : a.eval x = .slice (some ⟨wr.heap.size, 0, none⟩) 1 1)
    (hn : n + 1 ≤ 1099511627776) (hbytes : bytes ≤ 128) (hbase : base ≤ wr.heap.size)
    (h : ∀ v' w', w'.ownsRow base e sz v' (n + 1) (xs ++ us) → wr.grownBy w' v.ownBlock → Below base wr w' → (v'.ownBlock = v.ownBlock ∨ v'.ownBlock = some (wr.heap.size + 1)) → wpList P ops Q rest (a.put o.dst v') w') :
    wpList P ops Q (o :: rest) a (wr.alloc (.cells us.toArray e)) := by
  obtain ⟨i0, hi, hz0, hz1, hz2⟩ := info_parts hinf
  refine wpList_append_own_at _ hgd s x t ho base e i0 z sz bytes ht hi hz0 hz1 hz2 hzs hsz v n xs hs (hown.alloc _) ⟨wr.heap.size, 0, none⟩ 1 1 us hx (by rw [hl, Nat.one_mul]) ?_ hu (by simp only [maxLen]; omega) ?_ (by simp; omega) ?_
  · intro j u hj
    rw [addr_lit, cell_of_row (wr.alloc (.cells us.toArray e)) wr.heap.size _ us.toArray e (0, 0) (heap_alloc_new wr _)]
    simpa using hj
  · have : (n + 1) * bytes ≤ 1099511627776 * 128 := Nat.mul_le_mul hn hbytes
    omega
  · intro v' w' h1 h2 _ h4
    have hg : wr.grownBy w' v.ownBlock := grown_trans (World.grownBy_alloc wr _ _) h2
    refine h v' w' h1 hg (below_of_grown hg hbase fun k hk => (hown.lt k hk).1) ?_
    simpa using h4
theorem set_block {w : World} {c k i : Nat} {u : Value} (h : c ≠ k) : (w.setCell ⟨c, i, none⟩ u).heap[k]? = w.heap[k]? := by
  unfold World.setCell
  simp only
  rw [Array.getElem?_modify, if_neg h]
theorem grown_set (w : World) (c i : Nat) (u : Value) : w.grownBy (w.setCell ⟨c, i, none⟩ u) (some c) :=
  ⟨rfl, rfl, rfl, by simp, fun k _ hk => set_block (fun e => hk (by rw [e]))⟩
theorem one_set {w : World} {c : Nat} {v u : Value} {t : TypeId} (h : w.heap[c]? = some (.cells #[v] t (0, 0))) : (w.setCell ⟨c, 0, none⟩ u).heap[c]? = some (.cells #[u] t (0, 0)) := by
  simp [World.setCell, Array.getElem?_modify, h]
/-- the variables of the closure: the key, the values so far, the function -/
structure VI (base kb ob fb : Nat) (key : List UInt8) (V : List (List UInt8)) (v : Value) (w : World) : Prop where
  kk : w.heap[kb]? = some (.cells #[.string (B key)] 9 (0, 0))
  ff : w.heap[fb]? = some (.cells #[.func (.func 71) #[] #[.pointer (some ⟨kb, 0, none⟩), .pointer (some ⟨ob, 0, none⟩), .pointer (some ⟨fb, 0, none⟩)]] 120 (0, 0))
  oo : w.heap[ob]? = some (.cells #[v] 25 (0, 0))
  own : w.ownsRow base 9 1 v V.length (strs V)
  lk : kb < base
  lo : ob < base
  lf : fb < base
  ne : ob ≠ kb ∧ ob ≠ fb
  lb : base ≤ w.heap.size
theorem VI.below {base kb ob fb : Nat} {key : List UInt8} {V : List (List UInt8)} {v : Value} {w w' : World} (h : VI base kb ob fb key V v w) (hb : Below w.heap.size w w') : VI base kb ob fb key V v w' :=
  ⟨(hb.block _ (Array.getElem?_eq_some_iff.1 h.kk).1).trans h.kk, (hb.block _ (Array.getElem?_eq_some_iff.1 h.ff).1).trans h.ff, (hb.block _ (Array.getElem?_eq_some_iff.1 h.oo).1).trans h.oo, own_below h.own hb, h.lk, h.lo, h.lf, h.ne, Nat.le_trans h.lb hb.size⟩
theorem VI.alloc {base kb ob fb : Nat} {key : List UInt8} {V : List (List UInt8)} {v : Value} {w : World} (h : VI base kb ob fb key V v w) (o : Obj) : VI base kb ob fb key V v (w.alloc o) := h.below (below_alloc w o)
/-- a value more -/
theorem VI.put {base kb ob fb : Nat} {key : List UInt8} {V : List (List UInt8)} {v v' : Value} {x : List UInt8} {w w' : World} (h : VI base kb ob fb key V v w) (hown : w'.ownsRow base 9 1 v' (V.length + 1) (strs V ++ [.string (B x)])) (hg : w.grownBy w' v.ownBlock) : VI base kb ob fb key (V ++ [x]) v' (w'.setCell ⟨ob, 0, none⟩ v') := by
  have hne : ∀ k, k < base → some k ≠ v.ownBlock := fun k hk e => by
    have := (h.own.lt k e.symm).1
    omega
  have hk : w'.heap[kb]? = _ := (hg.block kb (Array.getElem?_eq_some_iff.1 h.kk).1 (hne kb h.lk)).trans h.kk
  have hf : w'.heap[fb]? = _ := (hg.block fb (Array.getElem?_eq_some_iff.1 h.ff).1 (hne fb h.lf)).trans h.ff
  have ho : w'.heap[ob]? = _ := (hg.block ob (Array.getElem?_eq_some_iff.1 h.oo).1 (hne ob h.lo)).trans h.oo
  refine ⟨(set_block h.ne.1).trans hk, (set_block h.ne.2).trans hf, one_set ho, ?_, h.lk, h.lo, h.lf, h.ne, by simp; exact Nat.le_trans h.lb hg.size⟩
  have e1 : strs V ++ [.string (B x)] = strs (V ++ [x]) := strs_snoc V x
  have e2 : V.length + 1 = (V ++ [x]).length := by simp
  rw [e1, e2] at hown
  refine hown.kept (grown_set w' ob 0 v') (.inr ?_)
  intro e
  have := (hown.lt ob e).1
  have := h.lo
  omega
theorem valAs_take {key : List UInt8} {ats : List (List UInt8 × List UInt8)} {j : Nat} {p : List UInt8 × List UInt8} (h : ats[j]? = some p) : valAs key (ats.take (j + 1)) = valAs key (ats.take j) ++ (if p.1 = key then [p.2] else []) := by
  obtain ⟨hj, e⟩ := List.getElem?_eq_some_iff.1 h
  rw [List.take_succ_eq_append_getElem hj, e]
  unfold valAs
  rw [List.filter_append, List.map_append]
  by_cases hp : p.1 = key <;> simp [hp]
theorem valAs_len (key : List UInt8) (ats : List (List UInt8 × List UInt8)) (j : Nat) : (valAs key (ats.take j)).length ≤ (mkAs ats).length := by
  unfold valAs
  have h1 := List.length_filter_le (fun p : List UInt8 × List UInt8 => p.1 == key) (ats.take j)
  have h2 := List.length_take_le' j ats
  have h3 := mkAs_len ats
  rw [List.length_map]; omega
theorem vals_sz (key : List UInt8) : ∀ n, (vals key n).length ≤ szN n := by
  refine Nd.ind ?_
  intro nm tx ats ks IH
  have hL : (valsL key ks).length ≤ szL ks := by
    clear tx ats
    induction ks with
    | nil => rw [valsL, szL]; simp
    | cons a r ih =>
      rw [valsL, szL, List.length_append]
      have := IH a (List.mem_cons_self ..)
      have := ih (fun k hk => IH k (List.mem_cons_of_mem _ hk))
      omega
  have hv := valAs_len key ats ats.length
  rw [List.take_of_length_le (Nat.le_refl _)] at hv
  rw [vals, szN]
  split
  · simp
  · rw [List.length_append]; omega
theorem valsL_take {key : List UInt8} {ks : List Nd} {j : Nat} {k : Nd} (h : ks[j]? = some k) : valsL key (ks.take (j + 1)) = valsL key (ks.take j) ++ vals key k := by
  have key2 : ∀ (a b : List Nd), valsL key (a ++ b) = valsL key a ++ valsL key b := by
    intro a b
    induction a with
    | nil => rw [valsL]; rfl
    | cons x r ih => rw [List.cons_append, valsL, valsL, ih, List.append_assoc]
  obtain ⟨hj, e⟩ := List.getElem?_eq_some_iff.1 h
  rw [List.take_succ_eq_append_getElem hj, key2, e, valsL, valsL, List.append_nil]
theorem valsL_szk {key : List UInt8} {ks : List Nd} {j : Nat} {k : Nd} (h : ks[j]? = some k) : (valsL key (ks.take j)).length + szN k ≤ szL ks := by
  induction ks generalizing j with
  | nil => simp at h
  | cons a r ih =>
    cases j with
    | zero =>
      have e : a = k := by simpa using h
      subst e
      rw [List.take_zero, valsL, szL]; simp
    | succ j =>
      have := ih (j := j) (by simpa using h)
      have := vals_sz key a
      rw [List.take_succ_cons, valsL, szL, List.length_append]; omega
def VPost (M base kb ob fb : Nat) (key : List UInt8) (V : List (List UInt8)) (w : World) (e : Ending) (w' : World) : Prop := e = .returned (.tuple #[]) ∧ (∃ v, VI base kb ob fb key V v w') ∧ Below M w w'
set_option maxHeartbeats 8000000 in
set_option maxRecDepth 100000 in
theorem valAdd_any (M base kb ob fb : Nat) (key : List UInt8) (hMk : M ≤ ob) : ∀ (n : Nd) (c : NC) (V : List (List UInt8)) (v : Value) (w : World), NdB w M n c → okN 1000000000 n → VI base kb ob fb key V v w → V.length + szN n ≤ 10000000000 →
    Calls Tryz.prog 71 #[.agg #[.string (B c.nm), .string (B c.tx), .slice c.A c.na c.ca, .slice c.K c.nk c.ck], .pointer (some ⟨kb, 0, none⟩), .pointer (some ⟨ob, 0, none⟩), .pointer (some ⟨fb, 0, none⟩)] w (VPost M base kb ob fb key (V ++ vals key n) w) := by
  refine Nd.ind ?_
  intro nm tx ats ks IH c V v w h hok hV hsz
  obtain ⟨e1, e2, hA, cs, hK, hkc, hks⟩ := h.parts
  obtain ⟨o1, o2, o3, o4, o5, o6⟩ := hok.parts
  obtain ⟨nm', tx', A, na, ca, K, nk, ck⟩ := c
  have e1 : nm' = nm := e1
  have e2 : tx' = tx := e2
  subst e1 e2
  have hA : Rd w M 2 A na (ats.flatMap prF) := hA
  have hK : Rd w M 4 K nk (cs.flatMap NC.cells) := hK
  have hna : ats.length = na := hA.count prF 2 prF_len (by omega)
  have hnk : cs.length = nk := hK.count NC.cells 4 NC.cells_len (by omega)
  rw [hna] at o3
  rw [hkc, hnk] at o4
  have HNA := Lib.hid hna
  have HNK := Lib.hid (hkc.trans hnk)
  rw [szN] at hsz
  have HE : Hid (vals key (.mk nm' tx' ats ks) = if nm' = [] then [] else valAs key ats ++ valsL key ks) := by rw [vals]; rfl
  have HKS := Lib.hid hks
  have HIH := Lib.hid IH
  have HOK := Lib.hid o6
  have HVL := Lib.hid (fun j => valAs_len key ats j)
  have HB := Bx.new w ⟨nm', tx', A, na, ca, K, nk, ck⟩
  have hVW := hV.alloc (.cells #[.string (B nm'), .string (B tx'), .slice A na ca, .slice K nk ck] 65)
  have hlb := hV.lb
  have hlo := hV.lo
  have hlk := hV.lk
  have hlf := hV.lf
  have hbW : Below M w (w.alloc (.cells #[.string (B nm'), .string (B tx'), .slice A na ca, .slice K nk ck] 65)) := (Below.refl M w).alloc (by omega) _
  have hown0 : ∀ g, v.ownBlock = some g → g ≠ w.heap.size := fun g hg => by have := (hV.own.lt g hg).2; omega
  clear hkc hnk hks IH h hok o5 o6 hV
  by_cases h0 : nm' = []
  · have HX : Hid (V ++ vals key (.mk nm' tx' ats ks) = V) := by rw [HE.out, if_pos h0]; simp [Hid]
    subst h0
    clear HE
    go_enter Tryz.func71, Tryz.ntmps71
    go_wp2
    go_end0
    exact ⟨rfl, ⟨v, by rw [HX.out]; exact hVW⟩, hbW⟩
  have n1 : (nm' == []) = false := by simpa using h0
  have n2 : nm'.isEmpty = false := by simpa using h0
  have HE2 : Hid (V ++ vals key (.mk nm' tx' ats ks) = V ++ valAs key ats ++ valsL key ks) := by rw [HE.out, if_neg h0]; simp [Hid]
  clear HE h0
  go_enter Tryz.func71, Tryz.ntmps71
  go_wp2
  generalize w.alloc (.cells #[.string (B nm'), .string (B tx'), .slice A na ca, .slice K nk ck] 65) = W at *
  have HOW := Lib.hid hown0
  clear hown0
  go_loopw [15] (fun i wr => ∃ (j : Nat) (u : Value), j ≤ na ∧ i = .int .i64 j ∧ VI base kb ob fb key (V ++ valAs key (ats.take j)) u wr ∧ Below M w wr ∧ Bx wr w.heap.size ⟨nm', tx', A, na, ca, K, nk, ck⟩ ∧ Hid (∀ g, u.ownBlock = some g → g ≠ w.heap.size)) (fun i _ => na - (intOf i).toNat)
  case atStart => exact ⟨0, v, Nat.zero_le _, rfl, by simpa [valAs] using hVW, hbW, HB, HOW⟩
  case round =>
    obtain ⟨j, u, hj, rfl, hV, hbw, HBw, how⟩ := hrel
    have hwl := HBw.lt
    have hvl := HVL.out j
    by_cases hlt : j < na
    · obtain ⟨p, hp⟩ := get_of (l := ats) (k := j) (by rw [HNA.out]; exact hlt)
      obtain ⟨bb, o, rfl, hbm, hcell⟩ := (hA.below hbw).elem prF 2 prF_len (by omega) hp
      have HT := Lib.hid (valAs_take (key := key) hp)
      obtain ⟨k, x⟩ := p
      have c0 : wr.cell? ⟨bb, o + j * 2, none⟩ = some (.string (B k)) := hcell 0 _ rfl
      have c1 : wr.cell? ⟨bb, o + j * 2 + 1, none⟩ = some (.string (B x)) := hcell 1 _ rfl
      have hkc : wr.cell? ⟨kb, 0, none⟩ = some (.string (B key)) := by simp [World.cell?, hV.kk]
      have hVP := hV.alloc (.cells #[.string (B k), .string (B x)] 71)
      have hbP := hbw.alloc (show M ≤ wr.heap.size by omega) (.cells #[.string (B k), .string (B x)] 71)
      have HBP := HBw.alloc (.cells #[.string (B k), .string (B x)] 71)
      have kl1 : kb < wr.heap.size := by omega
      have kl2 : ob < wr.heap.size := by omega
      have kl3 : bb < wr.heap.size := by omega
      clear hcell
      by_cases hkk : k = key
      · have HT2 : Hid (V ++ valAs key (ats.take (j + 1)) = V ++ valAs key (ats.take j) ++ [x]) := by
          rw [HT.out]; simp [hkk, Hid]
        subst hkk
        have ek : (k == k) = true := by simp
        obtain ⟨A1, c1', hu, hnc⟩ := own_form hV.own
        subst hu
        generalize hVg : V ++ valAs k (ats.take j) = V2 at *
        have hoc : wr.cell? ⟨ob, 0, none⟩ = some (.slice A1 V2.length c1') := by simp [World.cell?, hV.oo]
        have hVl : V2.length ≤ 10000000000 := by rw [← hVg, List.length_append]; omega
        clear hVg
        go_wp2_with (at_builtin; (refine wpList_app2 rfl (.tmp 23) (.tmp 26) 25 rfl 9 (.string ⟨#[]⟩) 1 16 Tryz.underlying25 Tryz.info9 rfl (by omega) (wr.alloc (.cells #[.string (B k), .string (B x)] 71)) [.string (B x)] rfl (by simp; rfl) base (.slice A1 V2.length c1') V2.length (strs V2) hVP.own rfl ?c3 (by omega) (by omega) hVP.lb ?_))
        intro v' w2 hown2 hgr hb2 hat
        have hput := hVP.put hown2 hgr
        obtain ⟨A2, c2', hv2, hnc2⟩ := own_form hown2
        subst hv2
        have hne : ∀ q, q < base → some q ≠ (Value.slice A1 V2.length c1').ownBlock := fun q hq e => by
          have := (hVP.own.lt q e.symm).1
          omega
        have ho2 : w2.heap[ob]? = some (.cells #[.slice A1 V2.length c1'] 25 (0, 0)) := (hgr.block ob (Array.getElem?_eq_some_iff.1 hVP.oo).1 (hne ob hlo)).trans hVP.oo
        have oc2 : w2.cell? ⟨ob, 0, none⟩ = some (.slice A1 V2.length c1') := by simp [World.cell?, ho2]
        have of2 : w2.frozen? ⟨ob, 0, none⟩ = false := by simp [World.frozen?, ho2]
        have HB2 : Bx w2 w.heap.size ⟨nm', tx', some ⟨bb, o, none⟩, na, ca, K, nk, ck⟩ := (hgr.block _ HBP.lt (fun e => how.out _ e.symm rfl)).trans HBP
        have HB3 : Bx (w2.setCell ⟨ob, 0, none⟩ (.slice A2 (V2.length + 1) c2')) w.heap.size ⟨nm', tx', some ⟨bb, o, none⟩, na, ca, K, nk, ck⟩ := (set_block (by omega)).trans HB2
        have hb3 : Below M w (w2.setCell ⟨ob, 0, none⟩ (.slice A2 (V2.length + 1) c2')) := (hbP.trans (hb2.mono (by omega))).setCell (p := ⟨ob, 0, none⟩) (show M ≤ ob from hMk) _
        have how3 : Hid (∀ g, (Value.slice A2 (V2.length + 1) c2').ownBlock = some g → g ≠ w.heap.size) := by
          intro g hg
          rcases hat with h | h
          · exact how.out g (h.symm.trans hg)
          · rw [h] at hg
            injection hg with hg
            omega
        rw [← HT2.out] at hput
        clear hgr hb2 hat ho2 HB2 hown2 hne hoc
        go_wp2
        go_roundw
        case rel => exact ⟨j + 1, _, by omega, by go_num, hput, hb3, HB3, how3⟩
        case measure => simp [intOf]; omega
      · have HT2 : Hid (V ++ valAs key (ats.take (j + 1)) = V ++ valAs key (ats.take j)) := by
          rw [HT.out]; simp [hkk, Hid]
        have ek : (k == key) = false := by simpa using hkk
        rw [← HT2.out] at hVP
        clear hkk
        go_wp2
        go_roundw
        case rel => exact ⟨j + 1, _, by omega, by go_num, hVP, hbP, HBP, how⟩
        case measure => simp [intOf]; omega
    · have HF : Hid (V ++ valAs key (ats.take j) = V ++ valAs key ats) := by rw [List.take_of_length_le (by rw [HNA.out]; omega)]; rfl
      rw [HF.out] at hV
      rw [List.take_of_length_le (by rw [HNA.out]; omega)] at hvl
      have b3 := HBw.c3
      go_wp2
      rename World => wo
      clear b3
      go_loopw [32] (fun i wr => ∃ (j : Nat) (u : Value), j ≤ nk ∧ i = .int .i64 j ∧ VI base kb ob fb key (V ++ valAs key ats ++ valsL key (ks.take j)) u wr ∧ Below M w wr) (fun i _ => nk - (intOf i).toNat)
      case atStart => exact ⟨0, u, Nat.zero_le _, rfl, by simpa [valsL] using hV, hbw⟩
      case round =>
        obtain ⟨t, u, ht, rfl, hV, hbw⟩ := hrel
        have hlb2 := hV.lb
        have hfc : wr.cell? ⟨fb, 0, none⟩ = some (.func (.func 71) #[] #[.pointer (some ⟨kb, 0, none⟩), .pointer (some ⟨ob, 0, none⟩), .pointer (some ⟨fb, 0, none⟩)]) := by simp [World.cell?, hV.ff]
        by_cases hlt2 : t < nk
        · obtain ⟨kd, hkd⟩ := get_of (l := ks) (k := t) (by rw [HNK.out]; exact hlt2)
          obtain ⟨kc, hkc, hkn⟩ := HKS.out t kd hkd
          obtain ⟨bb, o, rfl, hbm, hcell⟩ := (hK.below hbw).elem NC.cells 4 NC.cells_len (by omega) hkc
          have HT := Lib.hid (valsL_take (key := key) hkd)
          have hmm := List.mem_of_getElem? hkd
          have hszk := valsL_szk (key := key) hkd
          have g0 : wr.cell? ⟨bb, o + t * 4, none⟩ = some (.string (B kc.nm)) := hcell 0 _ rfl
          have g1 : wr.cell? ⟨bb, o + t * 4 + 1, none⟩ = some (.string (B kc.tx)) := hcell 1 _ rfl
          have g2 : wr.cell? ⟨bb, o + t * 4 + 2, none⟩ = some (.slice kc.A kc.na kc.ca) := hcell 2 _ rfl
          have g3 : wr.cell? ⟨bb, o + t * 4 + 3, none⟩ = some (.slice kc.K kc.nk kc.ck) := hcell 3 _ rfl
          have hVP := hV.alloc (.cells #[.string (B kc.nm), .string (B kc.tx), .slice kc.A kc.na kc.ca, .slice kc.K kc.nk kc.ck] 65)
          have hbP := hbw.alloc (show M ≤ wr.heap.size by omega) (.cells #[.string (B kc.nm), .string (B kc.tx), .slice kc.A kc.na kc.ca, .slice kc.K kc.nk kc.ck] 65)
          have hkB := hkn.below hbP
          have C := Lib.hid (HIH.out kd hmm kc (V ++ valAs key ats ++ valsL key (ks.take t)) u _ hkB (HOK.out kd hmm) hVP (by rw [List.length_append, List.length_append]; omega))
          have HT2 : Hid (V ++ valAs key ats ++ valsL key (ks.take t) ++ vals key kd = V ++ valAs key ats ++ valsL key (ks.take (t + 1))) := by rw [HT.out]; simp [Hid]
          have kl3 : fb < wr.heap.size := by omega
          clear hcell hkB HT hVP
          go_wp2_with fail
          refine C.out.mono ?_
          rintro e w5 ⟨rfl, ⟨u5, hV5⟩, hb5⟩
          rw [HT2.out] at hV5
          have hb6 := hbP.trans hb5
          clear C
          go_wp2
          go_roundw
          case rel => exact ⟨t + 1, u5, by omega, by go_num, hV5, hb6⟩
          case measure => simp [intOf]; omega
        · have HF2 : Hid (V ++ valAs key ats ++ valsL key (ks.take t) = V ++ vals key (.mk nm' tx' ats ks)) := by rw [HE2.out, List.take_of_length_le (by rw [HNK.out]; omega)]; rfl
          rw [HF2.out] at hV
          go_wp2
          go_end0
          exact ⟨rfl, ⟨u, hV⟩, hbw⟩
/-- a slice that reads as strings -/
def LPost (r : List (List UInt8)) (w : World) (e : Ending) (w' : World) : Prop := ∃ A c, e = .returned (.slice A r.length c) ∧ Rd w' w'.heap.size 1 A r.length (strs r) ∧ Below w.heap.size w w'
set_option maxHeartbeats 4000000 in
set_option maxRecDepth 100000 in
theorem values_any (n : Nd) (c : NC) (key : List UInt8) (w : World) (h : NdB w w.heap.size n c) (hok : okN 1000000000 n) (hsz : szN n ≤ 1000000000) :
    Calls Tryz.prog 43 #[.agg #[.string (B c.nm), .string (B c.tx), .slice c.A c.na c.ca, .slice c.K c.nk c.ck], .string (B key)] w (LPost (vals key n) w) := by
  have hb1 := below_alloc w (.cells #[.string (B c.nm), .string (B c.tx), .slice c.A c.na c.ca, .slice c.K c.nk c.ck] 65)
  obtain ⟨W1, hW1⟩ : ∃ W1, W1 = w.alloc (.cells #[.string (B c.nm), .string (B c.tx), .slice c.A c.na c.ca, .slice c.K c.nk c.ck] 65) := ⟨_, rfl⟩
  have hs1 : W1.heap.size = w.heap.size + 1 := by rw [hW1]; simp
  rw [← hW1] at hb1
  have q2 := heap_alloc_new W1 (.cells #[.string (B key)] 9)
  have hb2 := hb1.alloc hb1.size (.cells #[.string (B key)] 9)
  obtain ⟨W2, hW2⟩ : ∃ W2, W2 = W1.alloc (.cells #[.string (B key)] 9) := ⟨_, rfl⟩
  have hs2 : W2.heap.size = w.heap.size + 1 + 1 := by rw [hW2]; simp [hs1]
  rw [← hW2] at hb2 q2
  rw [hs1] at q2
  have q3 := heap_alloc_new W2 (.cells #[.slice none 0 0] 25)
  have q23 := (below_alloc W2 (.cells #[.slice none 0 0] 25)).block _ (show w.heap.size + 1 < W2.heap.size by omega)
  have hb3 := hb2.alloc hb2.size (.cells #[.slice none 0 0] 25)
  obtain ⟨W3, hW3⟩ : ∃ W3, W3 = W2.alloc (.cells #[.slice none 0 0] 25) := ⟨_, rfl⟩
  have hs3 : W3.heap.size = w.heap.size + 1 + 1 + 1 := by rw [hW3]; simp [hs2]
  rw [← hW3] at hb3 q3 q23
  rw [hs2] at q3
  have hb4 := hb3.alloc hb3.size (.cells #[.func (.func 71) #[] #[.pointer (some ⟨w.heap.size + 1, 0, none⟩), .pointer (some ⟨w.heap.size + 1 + 1, 0, none⟩), .pointer (some ⟨w.heap.size + 1 + 1 + 1, 0, none⟩)]] 120)
  have q4 := heap_alloc_new W3 (.cells #[.func (.func 71) #[] #[.pointer (some ⟨w.heap.size + 1, 0, none⟩), .pointer (some ⟨w.heap.size + 1 + 1, 0, none⟩), .pointer (some ⟨w.heap.size + 1 + 1 + 1, 0, none⟩)]] 120)
  have q24 := (below_alloc W3 (.cells #[.func (.func 71) #[] #[.pointer (some ⟨w.heap.size + 1, 0, none⟩), .pointer (some ⟨w.heap.size + 1 + 1, 0, none⟩), .pointer (some ⟨w.heap.size + 1 + 1 + 1, 0, none⟩)]] 120)).block _ (show w.heap.size + 1 < W3.heap.size by omega)
  have q34 := (below_alloc W3 (.cells #[.func (.func 71) #[] #[.pointer (some ⟨w.heap.size + 1, 0, none⟩), .pointer (some ⟨w.heap.size + 1 + 1, 0, none⟩), .pointer (some ⟨w.heap.size + 1 + 1 + 1, 0, none⟩)]] 120)).block _ (show w.heap.size + 1 + 1 < W3.heap.size by omega)
  rw [hs3] at q4
  have hVI : VI (w.heap.size + 4) (w.heap.size + 1) (w.heap.size + 1 + 1) (w.heap.size + 1 + 1 + 1) key [] (.slice none 0 0) (W3.alloc (.cells #[.func (.func 71) #[] #[.pointer (some ⟨w.heap.size + 1, 0, none⟩), .pointer (some ⟨w.heap.size + 1 + 1, 0, none⟩), .pointer (some ⟨w.heap.size + 1 + 1 + 1, 0, none⟩)]] 120)) :=
    ⟨q24.trans (q23.trans q2), q4, q34.trans q3, ⟨rfl, .inl ⟨rfl, rfl⟩⟩, by omega, by omega, by omega, ⟨by omega, by omega⟩, by simp; omega⟩
  have h4 := h.below hb4
  have C := Lib.hid (valAdd_any w.heap.size (w.heap.size + 4) (w.heap.size + 1) (w.heap.size + 1 + 1) (w.heap.size + 1 + 1 + 1) key (by omega) n c [] _ _ h4 hok hVI (by simp; omega))
  subst hW3 hW2 hW1
  clear hs1 hs2 hs3 q2 q3 q23 q4 q24 q34 hVI h4 hb1 hb2 hb3
  go_enter Tryz.func43, Tryz.ntmps43
  go_wp2_with fail
  refine C.out.mono ?_
  rintro e w4 ⟨rfl, ⟨u, hV⟩, hb5⟩
  clear C
  rw [List.nil_append] at hV
  obtain ⟨A1, c1', hu, hnc⟩ := own_form hV.own
  subst hu
  have hoc : w4.cell? ⟨w.heap.size + 1 + 1, 0, none⟩ = some (.slice A1 (vals key n).length c1') := by simp [World.cell?, hV.oo]
  have hB := hb4.trans hb5
  have hrd := Rd.of_own hV.own
  clear hV
  go_wp2
  go_ret
  exact ⟨A1, c1', rfl, hrd, hB⟩
end Go.Proofs.YtejjidbodfoiiaaGreatDoor
