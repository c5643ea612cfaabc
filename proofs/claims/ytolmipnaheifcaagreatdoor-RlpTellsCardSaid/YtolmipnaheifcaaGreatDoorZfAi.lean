/- Texts of this claim, merged by program: Nc Nd Ne Ob Sd Se Sh Sj. -/
import Derived.Test.YtolmipnaheifcaaGreatDoorZfAh
import Derived.Test.YtolmipnaheifcaaGreatDoorZfAg
import Derived.Test.YtolmipnaheifcaaGreatDoorZfAf
set_option linter.unusedSimpArgs false
set_option linter.unusedVariables false
namespace Go.Ev
inductive IvOk (M : Hp) : Iv → Prop
  | mk (x : Iv) (h1 : LiR Iv.cells 3 M x.kids x.sv) (h2 : x.kids.length ≤ 1099511627776) (h3 : ∀ k ∈ x.kids, IvOk M k) : IvOk M x
theorem IvOk.li {M : Hp} {x : Iv} (h : IvOk M x) : LiR Iv.cells 3 M x.kids x.sv := by cases h; assumption
theorem IvOk.len {M : Hp} {x : Iv} (h : IvOk M x) : x.kids.length ≤ 1099511627776 := by cases h; assumption
theorem IvOk.kid {M : Hp} {x : Iv} (h : IvOk M x) : ∀ k ∈ x.kids, IvOk M k := by cases h; assumption
theorem IvOk.congr {A B : Hp} (he : cellsAt A = cellsAt B) {x : Iv} (h : IvOk A x) : IvOk B x := by
  induction h with
  | mk x h1 h2 h3 ih => exact .mk x (h1.congr he) h2 ih
theorem IvOk.ext {A B : Hp} (he : Ext A B) {x : Iv} (h : IvOk A x) : IvOk B x := by
  induction h with
  | mk x h1 h2 h3 ih => exact .mk x (h1.ext he) h2 ih
theorem IvOk.text (M : Hp) (l : List UInt8) (b : Bool) (k : Nat) : IvOk M (.mk b l (.slice none 0 k) []) := .mk _ (LiR.nil _ _) (Nat.zero_le _) fun k hk => by cases hk
theorem subH_frontN (M : Hp) : ∀ (L : Hp), subH (L ++ M) L
  | [] => trivial
  | e :: r => by
    refine ⟨by simp [findE], ?_⟩
    simp only [List.cons_append, remE, if_true]
    exact subH_frontN M r
theorem Iv.all1 {x : Iv} (h : oneC x.sv = true) : x.cells.all oneC = true := by
  show (oneC (.bool x.list) && (oneC (.string (bs x.bytes)) && (oneC x.sv && true))) = true
  rw [h]; rfl
theorem encL_kids (x : It) (h : x.list = true) : encL x = headL 192 (encLs x.kids).length ++ encLs x.kids := by
  cases x with
  | mk l b ks =>
    have h : l = true := h
    subst h
    rw [encL]; rfl
theorem encL_text (x : It) (h : x.list = false) : encL x = textL x.bytes := by
  cases x with
  | mk l b ks =>
    have h : l = false := h
    subst h
    rw [encL]; rfl
theorem encLs_take (ks : List It) {i : Nat} {k : It} (h : ks[i]? = some k) : encLs (ks.take (i + 1)) = encLs (ks.take i) ++ encL k := by
  rw [encLs_flat, encLs_flat, List.take_add_one, h, List.map_append, List.flatten_append]
  simp
theorem encLs_le (ks : List It) (i : Nat) : (encLs (ks.take i)).length ≤ (encLs ks).length := by
  conv => rhs; rw [← List.take_append_drop i ks]
  rw [encLs_flat, encLs_flat, List.map_append, List.flatten_append, List.length_append]
  omega
theorem encLs_mem {ks : List It} {k : It} (h : k ∈ ks) : (encL k).length ≤ (encLs ks).length := by
  induction ks with
  | nil => cases h
  | cons y r ih =>
    rw [encLs, List.length_append]
    rcases List.mem_cons.1 h with rfl | h
    · omega
    · have := ih h; omega
end Go.Ev
namespace Go.Proofs.YtolmipnaheifcaaGreatDoor
open Go Go.Ev Go.Proofs
set_option maxRecDepth 100000
set_option maxHeartbeats 4000000
theorem itemIter {Hc : Hp} {ks : List Iv} {b1 : Nat} {k1 : Kind} {sv : Value} {cs0 : List Value} (hn : ks.length ≤ 1099511627776) (hmc : marksOf Hc = []) (h1 : findE Hc b1 = some ⟨b1, 0, k1, sv :: cs0⟩) (h2 : LiR Iv.cells 3 Hc ks sv) (hs : ∀ k ∈ ks, oneC k.sv = true) :
    IterV Tryz.prog 69 [.pointer (some ⟨b1, 0, none⟩)] Hc (ks.map fun k => [k.v]) := by
  obtain ⟨p, c, rfl, hla⟩ := h2.openC Iv.len (by decide)
  refine ⟨enterO Tryz.func69 rfl rfl, fun X Ho I St l x0 hro hmk h0 hy => ?_⟩
  have hmarks : ∀ x, marksOf (Hc ++ Ho x) = [] := fun x => by rw [marks_append, hmc, hmk]; rfl
  have hm0 := hmarks x0
  have h1' := fun z => findE_appT (B := Ho z) h1
  have l1 : 1 ≤ cs0.length + 1 := by omega
  have yl : ∀ (j : Nat) (z : X) (k : Iv) (e : Ent) (K' : Value → Hp → Prop), ks[j]? = some k → I j z → marksOf [e] = [] → (∀ x', I (j + 1) x' → K' (.bool true) (Hc ++ (Ho x' ++ [e]))) → (∀ x', St x' → K' (.bool false) (Hc ++ (Ho x' ++ [e]))) → YieldV Tryz.prog l [k.v] (e :: (Hc ++ Ho z)) K' := fun j z k e K' hj hi hme ht hf => by
    refine (hy j z [k.v] (by rw [List.getElem?_map, hj]; rfl) hi).frame2 ?_ hme ?_
    · rintro v H' (⟨rfl, x', _, rfl⟩ | ⟨rfl, x', _, rfl⟩) <;> exact hro z x'
    · rintro v H' (⟨rfl, x', h, rfl⟩ | ⟨rfl, x', h, rfl⟩)
      · exact ht x' h
      · exact hf x' h
  obtain ⟨vs, hvs⟩ : ∃ vs, vs = ks.map fun k => [k.v] := ⟨_, rfl⟩
  have hvl : vs.length = ks.length := by rw [hvs]; simp
  have yf : ∀ (x' : X), (I vs.length x' ∨ St x') → ∃ H'_1, List.Sublist H'_1 (dropM (Hc ++ Ho x')) ∧ ∃ z, (I vs.length z ∨ St z) ∧ H'_1 = Ho z := fun x' hst => by
    refine ⟨Ho x', ?_, x', hst, rfl⟩
    rw [dropM_eq (hmarks x')]
    exact List.sublist_append_right _ _
  have yf2 : ∀ (x' : X) (e : Ent), marksOf [e] = [] → (I vs.length x' ∨ St x') → ∃ H'_1, List.Sublist H'_1 (dropM (Hc ++ (Ho x' ++ [e]))) ∧ ∃ z, (I vs.length z ∨ St z) ∧ H'_1 = Ho z := fun x' e he hst => by
    refine ⟨Ho x', ?_, x', hst, rfl⟩
    rw [← List.append_assoc, dropM_eq (by rw [marks_append, hmarks, he]; rfl)]
    exact (List.sublist_append_right _ _).trans (List.sublist_append_left _ _)
  rw [← hvs]
  refine callsO gN2_ok Tryz.mix Tryz.pl69 Tryz.func69 rfl Tryz.ntmps69 Tryz.results69 rfl (by first | rfl | assumption) (Nat.le_of_ble_eq_true rfl) (by kernel_rfl) ?_
  simp only [push_cast, seval, reduceCtorEq, h1', l1]
  refine loopO gN2_ok (pl := Tryz.pl69) Tryz.mix (X := Nat × X)
    (fun s => ([(0, .func (.yield l) #[] #[]), (5, .slice p ks.length c), (6, .int .i64 ks.length), (7, .int .i64 s.1)], Hc ++ Ho s.2))
    (fun s => s.1 ≤ ks.length ∧ I s.1 s.2) (fun s => ks.length - s.1) (0, x0) ?_ ?_ (by kernel_rfl) ?_
  · exact ⟨Nat.zero_le _, h0⟩
  · simp only [push_cast, seval, reduceCtorEq, hm0, subH_self]
  · rintro ⟨i, z⟩ ⟨hi, hI⟩
    dsimp only at hi hI ⊢
    rcases Nat.lt_or_ge i ks.length with hlt | hge
    · obtain ⟨k, hk⟩ : ∃ k, ks[i]? = some k := ⟨ks[i], List.getElem?_eq_getElem hlt⟩
      rcases hla with rfl | ⟨b, f, d, kd, cs, rfl, he, hat⟩
      · simp at hk
      obtain ⟨a1, a2⟩ := hat i k hk
      have hee := fun x => findE_appT (B := Ho x) he
      have i1 : (i : Int) < (ks.length : Int) := by omega
      have kc : k.cells.all oneC = true := Iv.all1 (hs k (List.mem_of_getElem? hk))
      have k3 : List.take 3 k.cells = k.cells := List.take_of_length_le (Nat.le_of_eq rfl)
      have kv : Value.agg k.cells.toArray = k.v := rfl
      simp only [push_cast, seval, reduceCtorEq, h1', l1, i1, hlt, hee, a1, a2, kc, Iv.len, k3]
      intro b4 hb4
      refine yl i z k ⟨b4, 0, .cel 29, k.cells⟩ _ hk hI rfl (fun x' hx' => ?_) (fun x' hx' => ?_)
      · simp only [push_cast, seval, reduceCtorEq, wrap_i64' (show -9223372036854775808 ≤ (i : Int) + 1 ∧ (i : Int) + 1 ≤ 9223372036854775807 by omega)]
        refine ⟨(i + 1, x'), ⟨hlt, hx'⟩, by dsimp only; omega, ⟨rfl, ?_, ?_⟩⟩
        · rw [← List.append_assoc]; exact subH_frontN _ _
        · rw [← List.append_assoc, marks_append (Hc ++ Ho x')]; simp [marksOf]
      · simp only [push_cast, seval, reduceCtorEq]
        exact yf2 x' _ rfl (.inr hx')
    · obtain rfl : i = ks.length := by omega
      simp only [push_cast, seval, reduceCtorEq, h1', l1, Nat.lt_irrefl, Int.lt_irrefl]
      exact yf z (.inl (by rw [hvl]; exact hI))
end Go.Proofs.YtolmipnaheifcaaGreatDoor
set_option linter.unusedSimpArgs false
set_option linter.unusedVariables false
namespace Go.Ev
theorem roM.dupN {P : Program} {r : Option Nat} {n : Nat} {c : Code} {K : Exit → Tm → Hp → Prop} {T : Tm} {L M : Hp} (hr : roM M) (hL : freshN L M) (h : WpV P r n c K T (M ++ (L ++ M))) : WpV P r n c K T (L ++ M) := by
  intro w0 mu a w hro ht hs hd
  have hder := derE_mem hr.der
  have hk : ∀ e ∈ M, ¬ e.wr := fun e he hw => by unfold Ent.wr at hw; rw [(hder e he).1] at hw; exact hw
  obtain ⟨p1, p2, p3⟩ := List.pairwise_append.1 hs.apart
  refine h w0 mu a w hro ht ⟨hs.os, hs.tape, hs.output, hs.size, hs.old, fun e he => ?_, fun e he hw => ?_, List.pairwise_append.2 ⟨p2, hs.apart, fun x hx y hy hw => ?_⟩⟩ (by rw [hd]; unfold defersOf; rw [marks_append M, hr.marks]; rfl)
  · rcases List.mem_append.1 he with he | he
    · exact hs.ents e (List.mem_append_right L he)
    · exact hs.ents e he
  · rcases List.mem_append.1 he with he | he
    · exact absurd hw (hk e he)
    · exact hs.own e he hw
  · rcases List.mem_append.1 hy with hy | hy
    · exact (p3 y hy x hx (hw.symm)).symm
    · exact absurd hw (fun hw => hw.elim (hk x hx) (hk y hy))
theorem CallsV.preN {P : Program} {g : FuncId} {args : List Value} {H H' : Hp} {K : Value → Hp → Prop} (hp : H.Perm H') (hm : marksOf H' = marksOf H) (hc : CallsV P g args H' K) : CallsV P g args H K :=
  ⟨hc.1, fun w0 mu w hs => by have := hc.2 w0 mu w (hs.perm hp); rwa [hm] at this⟩
theorem find_behindN {L M : Hp} (hL : freshN L M) : ∀ b e, findE M b = some e → findE (L ++ M) b = some e := fun b e he => by rw [findE_freshN hL he]; exact he
theorem OutC.solid {e s n : Nat} {cs : List Value} {v : Value} {N : Hp} (h : OutC e s cs n v N) : ∀ x ∈ N, x.kind.solid = true := by
  rcases h with ⟨-, -, -, rfl⟩ | ⟨g, c, -, -, -, -, rfl⟩
  · intro x hx; cases hx
  · intro x hx; rw [List.mem_singleton.1 hx]; rfl
theorem cellsAt_open1 {M : Hp} {b : Nat} {v : Value} (h : cellsAt M b 0 1 = some [v]) : ∃ kd cs, findE M b = some ⟨b, 0, kd, v :: cs⟩ := by
  unfold cellsAt at h
  cases he : findE M b with
  | none => rw [he] at h; cases h
  | some e =>
    rw [he] at h
    have hb := (findE_mem he).2
    obtain ⟨b, f, kd, cs⟩ := e
    dsimp only at hb h
    subst hb
    by_cases hf : f ≤ 0
    · obtain rfl := Nat.le_zero.1 hf
      rw [if_pos hf] at h
      unfold subL at h
      split at h
      · have := Option.some.inj h
        rw [Nat.sub_self, List.drop_zero] at this
        cases cs with
        | nil => cases this
        | cons x r => injection this with h1; subst h1; exact ⟨kd, r, rfl⟩
      · cases h
    · rw [if_neg hf] at h; cases h
end Go.Ev
namespace Go.Proofs.YtolmipnaheifcaaGreatDoor
open Go Go.Ev Go.Proofs
set_option maxRecDepth 100000
set_option maxHeartbeats 4000000
theorem valuesN_ok (p : Option Addr) (n c : Nat) : CallsV Tryz.prog 47 [.slice p n c] [] (fun v N => ∃ b, v = .func (.func 69) #[] #[.pointer (some ⟨b, 0, none⟩)] ∧ N = [⟨b, 0, .cel 27, [.slice p n c]⟩]) := by
  refine callsO gN3_ok Tryz.mix Tryz.pl47 Tryz.func47 rfl Tryz.ntmps47 Tryz.results47 rfl (by first | rfl | assumption) (Nat.le_of_ble_eq_true rfl) (by kernel_rfl) ?_
  simp only [push_cast, seval, reduceCtorEq]
  intro b
  try simp only [push_cast, seval, reduceCtorEq]
  exact ⟨[_], List.Sublist.refl _, b, rfl, rfl⟩
theorem join_ok {M0 : Hp} (hr : roM M0) {ks : List Iv} {sv : Value} {b1 : Nat} {k1 : Kind} {cs0 : List Value} (h1 : findE M0 b1 = some ⟨b1, 0, k1, sv :: cs0⟩) (h2 : LiR Iv.cells 3 M0 ks sv) (hn : ks.length ≤ 1099511627776) (hs : ∀ k ∈ ks, IvOk M0 k)
    (henc : ∀ k ∈ ks, ∀ M1, roM M1 → IvOk M1 k → CallsV Tryz.prog 26 [k.v] M1 (Ret0 (.string (bs (encL k.it))))) (hlen : (encLs (ks.map Iv.it)).length ≤ 1099511627776) :
    CallsV Tryz.prog 46 [.func (.func 69) #[] #[.pointer (some ⟨b1, 0, none⟩)], .func (.func 26) #[] #[]] M0 (Ret0 (.string (bs (encLs (ks.map Iv.it))))) := by
  have hm := hr.marks
  obtain ⟨R, hR⟩ : ∃ R, R = bs (encLs (ks.map Iv.it)) := ⟨_, rfl⟩
  rw [← hR]
  have hit := itemIter hn hm h1 h2 (fun k hk => by obtain ⟨p, c, he, -⟩ := (hs k hk).li; rw [he]; rfl)
  refine callsO gN3_ok Tryz.mix Tryz.pl46 Tryz.func46 rfl Tryz.ntmps46 Tryz.results46 rfl (by first | rfl | assumption) (Nat.le_of_ble_eq_true rfl) (by kernel_rfl) ?_
  simp only [push_cast, seval, reduceCtorEq]
  intro b3 hb3 b5 hb5
  try simp only [push_cast, seval, reduceCtorEq, hb3, hb5]
  have f3 : fresh b3 M0 := hb3
  have f5 : fresh b5 M0 := hb5.2.2
  refine roM.dupN (M := M0) (L := [_, _]) hr ⟨f5, f3, trivial⟩ ?_
  obtain ⟨B3, hB3⟩ : ∃ B : Ent, B = ⟨b3, 0, .cel 52, [.func (.func 26) #[] #[]]⟩ := ⟨_, rfl⟩
  have hroM : ∀ x y : BldX, ∀ e ∈ bldH b5 y ++ (B3 :: M0), e.wr ∨ e ∈ bldH b5 x ++ (B3 :: M0) := fun x y e he => by
    rcases List.mem_append.1 he with h | h
    · exact .inl (bldH_wr b5 y e h)
    · exact .inr (List.mem_append_right _ h)
  have hmk : ∀ x : BldX, marksOf (bldH b5 x ++ (B3 :: M0)) = [] := fun x => by rw [marks_append, bldH_marks, hB3]; simp [marksOf, hm]
  refine rangeO gN3_ok (pl := Tryz.pl46) Tryz.mix (Hc := M0) (Hm := []) hit rfl
    (X := BldX) (fun s => bldH b5 s ++ (B3 :: M0))
    (fun k s => (s.1.1 = .pointer none ∨ s.1.1 = .pointer (some ⟨b5, 0, none⟩)) ∧ OutC 5 1 (byteV (encLs ((ks.map Iv.it).take k))) (encLs ((ks.map Iv.it).take k)).length s.1.2.1 s.1.2.2 ∧ freshN s.1.2.2 [⟨b5, 0, .cel 120, [s.1.1, s.1.2.1]⟩] ∧ freshN (bldH b5 s) (B3 :: M0)) (fun _ _ => False) ⟨(.pointer none, .slice none 0 0, []), trivial, rfl⟩
    ?_ ?_ ?_ hm (by simp) hmk hroM ?_ (by kernel_rfl) (by kernel_rfl) (fun _ _ h => h.elim) ?_ ?_ (fun _ _ _ _ h => h.elim)
  · refine ⟨.inl rfl, by rw [List.take_zero]; simp only [encLs]; exact OutC.nil _ _, trivial, ?_⟩
    rw [hB3]
    exact ⟨by simp only [push_cast, seval, reduceCtorEq, hb5, f5], trivial⟩
  · rw [hB3]
    exact subH_self _
  · simp [marksOf, marks_append, hm]
  · intro args ha
    obtain ⟨z, _, rfl⟩ := List.mem_map.1 ha
    rfl
  · rintro lo k s args hk ⟨hp, ho, hf, hfM⟩
    obtain ⟨x, hx, rfl⟩ := Option.map_eq_some_iff.1 ((List.getElem?_map ..).symm.trans hk)
    have hxm := List.mem_of_getElem? hx
    have hxi : (ks.map Iv.it)[k]? = some x.it := by rw [List.getElem?_map, hx]; rfl
    have htk := encLs_take (ks.map Iv.it) hxi
    have hle := encLs_le (ks.map Iv.it) (k + 1)
    rw [htk, List.length_append] at hle
    have hmk' := hmk s
    have xall : x.cells.all oneC = true := Iv.all1 (by obtain ⟨p, c, he, -⟩ := (hs x hxm).li; rw [he]; rfl)
    have x3 : List.take 3 x.cells = x.cells := List.take_of_length_le (Nat.le_of_eq rfl)
    have xv : x.v.cells.toList = x.cells := rfl
    generalize hRK : (roundK _ _ _ k : Exit → Tm → Hp → Prop) = RK
    show oC _ _ _ _ _ _ _ (parT 14 _ _ [x.v]) _
    have hf3 : findE (bldH b5 s ++ (B3 :: M0)) b3 = some ⟨b3, 0, .cel 52, [.func (.func 26) #[] #[]]⟩ := find_behindN hfM b3 _ (by rw [hB3]; simp only [push_cast, seval, reduceCtorEq])
    simp only [push_cast, seval, reduceCtorEq, hmk', xall, x3, Iv.len, xv]
    intro b6 hb6
    have d36 := (fresh_findS hb6 hf3).2
    have f6 : fresh b6 (B3 :: M0) := fresh_app hb6
    simp only [push_cast, seval, reduceCtorEq, hf3, d36]
    rw [show (⟨b6, 0, .cel 29, x.cells⟩ :: (bldH b5 s ++ B3 :: M0) : Hp) = (⟨b6, 0, .cel 29, x.cells⟩ :: (bldH b5 s ++ [B3])) ++ M0 by simp]
    refine useP (v := .string (bs (encL x.it))) _ (fun M1 hr1 he1 => henc x hxm M1 hr1 ((hs x hxm).congr he1.symm)) ?_ ?_
    · exact ⟨f6.2.2, freshN_appL.2 ⟨freshN_cons hfM, by rw [hB3]; exact f3, trivial⟩⟩
    rw [show (⟨b6, 0, .cel 29, x.cells⟩ :: (bldH b5 s ++ [B3])) ++ M0 = (⟨b6, 0, .cel 29, x.cells⟩ :: (bldH b5 s ++ B3 :: M0) : Hp) by simp]
    simp only [push_cast, seval, reduceCtorEq]
    refine CallsV.preN (H' := bldH b5 s ++ (⟨b6, 0, .cel 29, x.cells⟩ :: B3 :: M0)) List.perm_middle.symm (by simp [marks_append, marksOf]) ?_
    refine CallsV.useMs (Hw := bldH b5 s) (Hf := []) (by rw [List.append_nil]; exact write_ok b5 s.1.1 s.1.2.1 hp _ _ ho hf (bs (encL x.it)) (by rw [bs_size]; omega)) ?_ trivial ?_
    · intro e he
      rcases List.mem_append.1 he with h | h
      · exact ho.solid e h
      · rw [List.mem_singleton.1 h]; rfl
    · rintro v N ⟨rfl, v', N', ho', hf', rfl⟩
      refine ⟨allWr_app ho'.wr.1 ⟨trivial, trivial⟩, by rw [marks_append, ho'.wr.2]; rfl, fun hfN => ?_⟩
      rw [bs_data, ← htk] at ho'
      simp only [push_cast, seval, reduceCtorEq]
      rw [← hRK]
      refine ⟨⟨(.pointer (some ⟨b5, 0, none⟩), v', N'), ho'.wr⟩, ⟨.inr rfl, ho', hf', freshN_cons hfN⟩, ?_⟩
      show subH _ (bldH b5 _ ++ _)
      unfold bldH
      rw [List.append_assoc]
      exact subH_pre (subH_pre (subH_cons f6) [_]) N'
  · rintro D s hfD ⟨hp, ho, hf, hfM⟩
    have hmk' := hmk s
    rw [List.length_map, ← List.length_map (f := Iv.it), List.take_length] at ho
    simp only [push_cast, seval, reduceCtorEq]
    refine CallsV.preN (H' := bldH b5 s ++ (⟨D, 0, .obj (.deferred (some [])), []⟩ :: B3 :: M0)) List.perm_middle.symm (by simp [marks_append, marksOf, bldH_marks]) ?_
    refine CallsV.useMs (Hw := bldH b5 s) (Hf := []) (by rw [List.append_nil]; exact string_ok b5 s.1.1 s.1.2.1 (encLs (ks.map Iv.it)) (by omega) _ ho hf) ?_ trivial ?_
    · intro e he
      rcases List.mem_append.1 he with h | h
      · exact ho.solid e h
      · rw [List.mem_singleton.1 h]; rfl
    · rintro v N ⟨rfl, rfl⟩
      refine ⟨trivial, rfl, fun _ => ?_⟩
      simp only [push_cast, seval, reduceCtorEq]
      rw [hR]; rfl
end Go.Proofs.YtolmipnaheifcaaGreatDoor
set_option linter.unusedSimpArgs false
set_option linter.unusedVariables false
namespace Go.Ev
theorem textL_one {c : UInt8} (h : c.toNat < 128) : textL [c] = [c] := by unfold textL; dsimp only; rw [if_pos h]
theorem textL_long {l : List UInt8} (h : ∀ c, l = [c] → ¬ c.toNat < 128) : textL l = headL 128 l.length ++ l := by
  unfold textL
  split
  · rename_i c; rw [if_neg (h c rfl)]; rfl
  · rfl
theorem Iv.drop2 (x : Iv) : List.take 1 (List.drop 2 x.cells) = [x.sv] := rfl
end Go.Ev
namespace Go.Proofs.YtolmipnaheifcaaGreatDoor
open Go Go.Ev Go.Proofs
set_option maxRecDepth 100000
set_option maxHeartbeats 4000000
theorem encode_ok (x : Iv) : ∀ M0, roM M0 → IvOk M0 x → (encL x.it).length ≤ 1099511627776 → CallsV Tryz.prog 26 [x.v] M0 (Ret0 (.string (bs (encL x.it)))) := by
  induction x using Iv.ind with
  | h x ih =>
    intro M0 hr hx hlen
    have hm := hr.marks
    have hil := Iv.it_list x
    have hib := Iv.it_bytes x
    have hik := Iv.it_kids x
    have hv : x.v = .agg #[.bool x.list, .string (bs x.bytes), x.sv] := rfl
    rw [hv]
    obtain ⟨p, c, hsv, -⟩ := id hx.li
    obtain ⟨R, hR⟩ : ∃ R, R = bs (encL x.it) := ⟨_, rfl⟩
    rw [← hR]
    refine callsO gN3_ok Tryz.mix Tryz.pl26 Tryz.func26 rfl Tryz.ntmps26 Tryz.results26 rfl (by first | rfl | assumption) (Nat.le_of_ble_eq_true rfl) (by kernel_rfl) ?_
    simp only [push_cast, seval, reduceCtorEq, hsv]
    intro b1 hb1
    have hr1 : ∀ M1, roM M1 → cellsAt M1 = cellsAt M0 → IvOk M1 x := fun M1 _ he => hx.congr he.symm
    cases hl : x.list with
    | true =>
      rw [encL_kids _ (by rw [hil]; exact hl)] at hR hlen
      rw [hik] at hR hlen
      rw [List.length_append] at hlen
      simp only [push_cast, seval, reduceCtorEq]
      refine (valuesN_ok p x.kids.length c).use trivial ?_
      rintro _ _ ⟨b, rfl, rfl⟩
      refine ⟨⟨trivial, trivial⟩, rfl, fun hfn => ?_⟩
      simp only [push_cast, seval, reduceCtorEq] at hfn
      try simp only [push_cast, seval, reduceCtorEq, hfn]
      refine CallsV.preN (H' := [⟨b1, 0, .cel 29, [.bool true, .string (bs x.bytes), .slice p x.kids.length c]⟩] ++ (⟨b, 0, .cel 27, [.slice p x.kids.length c]⟩ :: M0)) (List.Perm.swap ..) (by simp [marksOf]) ?_
      have hxt : Ext M0 (⟨b, 0, .cel 27, [.slice p x.kids.length c]⟩ :: M0) := Ext.cons hm rfl hfn.2.2
      refine useP [_] (M := ⟨b, 0, .cel 27, [.slice p x.kids.length c]⟩ :: M0) (v := .string (bs (encLs (x.kids.map Iv.it)))) (fun M1 hr1 he1 => ?_) ?_ ?_
      · have hx1 : IvOk M1 x := (hx.ext hxt).congr he1.symm
        obtain ⟨kd, cs0, hf1⟩ := cellsAt_open1 (M := M1) (b := b) (v := .slice p x.kids.length c) (by rw [he1]; simp only [push_cast, seval, reduceCtorEq])
        exact join_ok hr1 hf1 (by rw [← hsv]; exact hx1.li) hx1.len hx1.kid (fun k hk M2 hr2 hk2 => ih k hk M2 hr2 hk2 (by have := encLs_mem (List.mem_map_of_mem (f := Iv.it) hk); omega)) (by omega)
      · exact ⟨⟨hfn.2.1, hfn.1, hb1⟩, trivial⟩
      obtain ⟨S, hS⟩ : ∃ S, S = encLs (x.kids.map Iv.it) := ⟨_, rfl⟩
      rw [← hS] at hR hlen ⊢
      have c1 : ((0 : Int) ≤ (S.length : Int)) := by omega
      have c2 : (S.length : Int) ≤ 1099511627776 := by omega
      have hcat : catB (headK 192 (S.length : Int)) (bs S) = some (.string R) := by
        rw [show headK 192 (S.length : Int) = bs (headL 192 S.length) from headK_eq 192 S.length, ncatB _ _ (by omega), hR]
      simp only [push_cast, seval, reduceCtorEq, c1, c2, hcat]
    | false =>
      rw [encL_text _ (by rw [hil]; exact hl)] at hR hlen
      rw [hib] at hR hlen
      obtain ⟨B, hB⟩ : ∃ B, B = x.bytes := ⟨_, rfl⟩
      rw [← hB] at hR hlen ⊢
      have long : (∀ c, B = [c] → ¬ c.toNat < 128) → B.length ≤ 1099511627776 ∧ catB (headK 128 (B.length : Int)) (bs B) = some (.string R) := fun h => by
        rw [textL_long h] at hR hlen
        rw [List.length_append] at hlen
        refine ⟨by omega, ?_⟩
        rw [show headK 128 (B.length : Int) = bs (headL 128 B.length) from headK_eq 128 B.length, ncatB _ _ (by omega), hR]
      by_cases h1 : B.length = 1
      · obtain ⟨c, rfl⟩ := List.length_eq_one_iff.1 h1
        have b0 : (bs [c]).data[0]? = some c := rfl
        have e2 : ([c] : List UInt8).length = 1 := rfl
        by_cases hc : c.toNat < 128
        · rw [textL_one hc] at hR
          have c1 : (c.toNat : Int) < 128 := by omega
          simp only [push_cast, seval, reduceCtorEq, b0, e2, c1, hc]
          rw [hR]
        · have c1 : ¬ (c.toNat : Int) < 128 := by omega
          obtain ⟨l1, l2⟩ := long (fun d hd => by injection hd with hd; subst hd; exact hc)
          have l3 : catB (headK 128 1) (bs [c]) = some (.string R) := l2
          simp only [push_cast, seval, reduceCtorEq, b0, e2, c1, hc, l3]
      · have c1 : ((B.length : Int) == 1) = false := by rw [beq_eq_false_iff_ne]; omega
        obtain ⟨l1, l2⟩ := long (fun d hd => by rw [hd] at h1; exact absurd rfl h1)
        have c2 : (0 : Int) ≤ (B.length : Int) := by omega
        have c3 : (B.length : Int) ≤ 1099511627776 := by omega
        simp only [push_cast, seval, reduceCtorEq, c1, c2, c3, l2]
end Go.Proofs.YtolmipnaheifcaaGreatDoor
set_option linter.unusedSimpArgs false
set_option linter.unusedVariables false
namespace Go.Ev
set_option maxRecDepth 20000
mutual
def cntI : It → Nat
  | .mk _ _ ks => 1 + cntIs ks
def cntIs : List It → Nat
  | [] => 0
  | k :: r => cntI k + cntIs r
end
mutual
def okD : It → Nat → Bool
  | .mk l b ks, d => match d with
    | 0 => false
    | d + 1 => (if l then b.isEmpty else ks.isEmpty) && okDs ks d
def okDs : List It → Nat → Bool
  | [], _ => true
  | k :: r, d => okD k d && okDs r d
end
def subS (s : List UInt8) (a n : Nat) : List UInt8 := (s.drop a).take n
theorem subS_len {s : List UInt8} {a n : Nat} (h : a + n ≤ s.length) : (subS s a n).length = n := by
  unfold subS; rw [List.length_take, List.length_drop]; omega
theorem subS_add (s : List UInt8) (a n k : Nat) : subS s a (n + k) = subS s a n ++ subS s (a + n) k := by
  unfold subS; rw [List.take_add, List.drop_drop]
theorem subS_zero (s : List UInt8) (a : Nat) : subS s a 0 = [] := by unfold subS; exact List.take_zero
theorem getD_lt {s : List UInt8} {a : Nat} (h : a < s.length) : s.getD a 0 = s[a] := by
  rw [List.getD_eq_getElem?_getD, List.getElem?_eq_getElem h]; rfl
theorem subS_succ {s : List UInt8} {a : Nat} (n : Nat) (h : a < s.length) : subS s a (n + 1) = s.getD a 0 :: subS s (a + 1) n := by
  unfold subS; rw [List.drop_eq_getElem_cons h, List.take_succ_cons, getD_lt h]
theorem subS_head {s t : List UInt8} {c : UInt8} {a n : Nat} (h : subS s a (n + 1) = c :: t) : s.getD a 0 = c ∧ subS s (a + 1) n = t := by
  rcases Nat.lt_or_ge a s.length with ha | ha
  · rw [subS_succ n ha] at h; injection h with h1 h2; exact ⟨h1, h2⟩
  · unfold subS at h; rw [List.drop_eq_nil_of_le ha, List.take_nil] at h; cases h
theorem textL_as {t : List UInt8} (h : ¬ (t.length = 1 ∧ (t.headD 0).toNat < 128)) : textL t = headL 128 t.length ++ t :=
  textL_long fun c hc hlt => h (by subst hc; exact ⟨rfl, hlt⟩)
theorem headL_len (k n : Nat) : (headL k n).length = if n ≤ 55 then 1 else 1 + (lenL n).length := by
  by_cases h : n ≤ 55
  · rw [headL_le h, if_pos h]; rfl
  · rw [headL_gt h, if_neg h, List.length_cons, Nat.add_comm]
theorem headL_pos (k n : Nat) : 0 < (headL k n).length := by rw [headL_len]; split <;> omega
theorem u8_of {c : UInt8} {n : Nat} (h : c.toNat = n) : UInt8.ofNat n = c := by
  refine UInt8.toNat_inj.1 ?_
  rw [UInt8.toNat_ofNat', ← h]
  exact Nat.mod_eq_of_lt c.toNat_lt
theorem u8_to {n : Nat} (h : n < 256) : (UInt8.ofNat n).toNat = n := by rw [UInt8.toNat_ofNat']; exact Nat.mod_eq_of_lt h
theorem sizeD_ok {s : List UInt8} {k e a n b z : Nat} (hae : a < e) (he : e ≤ s.length) (h1 : k ≤ (s.getD a 0).toNat) (h2 : (s.getD a 0).toNat < k + 64) (h : sizeD s k e a = .ok n b z) :
    subS s a (b - a) = headL k n ∧ a < b ∧ b + n ≤ e := by
  unfold sizeD at h
  split at h
  · rename_i c1
    split at h
    · cases h
    · rename_i c2
      injection h with q1 q2 q3
      refine ⟨?_, by omega, by omega⟩
      rw [headL_le (by omega), show b - a = 0 + 1 by omega, subS_succ 0 (by omega), subS_zero, u8_of (c := s.getD a 0) (by omega)]
  · rename_i c1
    split at h
    · cases h
    rename_i c2
    split at h
    · cases h
    rename_i c3
    split at h
    · cases h
    rename_i c4
    injection h with q1 q2 q3
    obtain ⟨g, hg⟩ : ∃ g, g = (s.getD a 0).toNat - k - 55 := ⟨_, rfl⟩
    rw [← hg] at q1 q2 c2 c3 c4
    have hl : ((s.drop (a + 1)).take g).length = g := subS_len (s := s) (a := a + 1) (n := g) (by omega)
    have hd : ((s.drop (a + 1)).take g).headD 1 ≠ 0 := fun h0 => c3 (.inl (by
      obtain ⟨g', rfl⟩ : ∃ g', g = g' + 1 := ⟨g - 1, by omega⟩
      have := subS_succ (s := s) (a := a + 1) g' (by omega)
      unfold subS at this
      rw [this] at h0
      exact h0))
    have hv : numN ((s.drop (a + 1)).take g) < 18446744073709551616 := by
      have h1 := numN_lt ((s.drop (a + 1)).take g)
      rw [hl] at h1
      have h3 : 256 ^ g ≤ 256 ^ 8 := Nat.pow_le_pow_right (by decide) (by omega)
      have h4 : (256 : Nat) ^ 8 = 18446744073709551616 := by decide
      omega
    rw [q1] at hv c3 c4
    have ht : (s.drop (a + 1)).take g = lenL n := numN_inj hd (lenL_head n) (by rw [lenL_num hv, q1])
    refine ⟨?_, by omega, by omega⟩
    have hn : ¬ n ≤ 55 := fun h => c3 (.inr h)
    rw [headL_gt hn, ← ht, hl, show b - a = g + 1 by omega, subS_succ g (by omega), u8_of (c := s.getD a 0) (by omega)]
    rfl
theorem sizeD_of {s : List UInt8} {k e a n : Nat} (hk : k ≤ 192) (hn : n < 18446744073709551616) (h : subS s a (headL k n).length = headL k n) (he : a + (headL k n).length + n ≤ e) : sizeD s k e a = .ok n (a + (headL k n).length) 0 := by
  have hl := headL_len k n
  by_cases c : n ≤ 55
  · rw [if_pos c] at hl
    rw [hl] at h he ⊢
    rw [headL_le c] at h
    have h1 := (subS_head (n := 0) h).1
    have h2 : (s.getD a 0).toNat = k + n := by rw [h1, u8_to (by omega)]
    unfold sizeD
    rw [h2, Nat.add_sub_cancel_left, if_pos c, if_neg (by omega)]
  · rw [if_neg c] at hl
    have h8 := lenL_len hn
    rw [hl] at h he ⊢
    rw [headL_gt c, Nat.add_comm 1] at h
    obtain ⟨h1, h3⟩ := subS_head h
    have h2 : (s.getD a 0).toNat = k + 55 + (lenL n).length := by rw [h1, u8_to (by omega)]
    have hne := lenL_ne hn (by omega)
    have h4 : s.getD (a + 1) 0 ≠ 0 := fun h0 => by
      have hh := lenL_head n
      cases hq : lenL n with
      | nil => exact hne hq
      | cons y q =>
        rw [hq] at h3 hh
        have := (subS_head h3).1
        rw [this] at h0
        exact hh h0
    have hg : k + 55 + (lenL n).length - k - 55 = (lenL n).length := by omega
    have h0 : 0 < (lenL n).length := List.length_pos_iff.2 hne
    unfold subS at h3
    unfold sizeD
    rw [h2, hg, if_neg (by omega), if_neg (by omega), h3, lenL_num hn, if_neg (fun hh => hh.elim h4 c), if_neg (by omega)]
    rw [Nat.add_assoc]
def GoodI (s : List UInt8) (d e : Nat) (f : Nat → Nat → Rd It) : Prop :=
  ∀ a m x a' m', f a m = .ok x a' m' → a < a' ∧ a' ≤ e ∧ okD x d = true ∧ m' = m + cntI x ∧ m' ≤ 5000 ∧ encL x = subS s a (a' - a)
theorem listD_ok {s : List UInt8} {d e : Nat} {f : Nat → Nat → Rd It} (hf : GoodI s d e f) : ∀ (k a m : Nat) (l l' : List It) (a' m' : Nat), listD f e k a m l = .ok l' a' m' → a ≤ e → m ≤ 5000 → e - a < k →
    ∃ r, l' = l ++ r ∧ a' = e ∧ okDs r d = true ∧ m' = m + cntIs r ∧ m' ≤ 5000 ∧ encLs r = subS s a (e - a)
  | 0, a, m, l, l', a', m', h, ha, hm, hk => by omega
  | k + 1, a, m, l, l', a', m', h, ha, hm, hk => by
    rw [listD] at h
    split at h
    · rename_i hlt
      split at h
      · cases h
      · rename_i y a1 m1 hy
        obtain ⟨g1, g2, g3, g4, g5, g6⟩ := hf a m y a1 m1 hy
        obtain ⟨r, r1, r2, r3, r4, r5, r6⟩ := listD_ok hf k a1 m1 _ l' a' m' h g2 g5 (by omega)
        refine ⟨y :: r, by rw [r1, List.append_assoc]; rfl, r2, by rw [okDs, g3, r3]; rfl, by rw [cntIs]; omega, r5, ?_⟩
        rw [encLs, g6, r6, show e - a = (a1 - a) + (e - a1) by omega, subS_add, show a + (a1 - a) = a1 by omega]
    · rename_i hge
      injection h with h1 h2 h3
      refine ⟨[], by rw [h1, List.append_nil], by omega, rfl, by rw [cntIs]; omega, by omega, ?_⟩
      rw [show e - a = 0 by omega, subS_zero, encLs]
theorem itemD_ok (s : List UInt8) : ∀ (d e : Nat), e ≤ s.length → GoodI s d e (itemD s d e)
  | 0, e, he, a, m, x, a', m', h => by rw [itemD_zero] at h; cases h
  | d + 1, e, he, a, m, x, a', m', h => by
    rw [itemD_succ] at h; unfold stepD at h
    split at h
    · cases h
    rename_i c1
    split at h
    · cases h
    rename_i c2
    have has : a < s.length := by omega
    split at h
    · rename_i c3
      injection h with h1 h2 h3
      subst h1 h2 h3
      refine ⟨by omega, by omega, rfl, rfl, by omega, ?_⟩
      rw [encL, textL_one c3, show a + 1 - a = 0 + 1 by omega, subS_succ 0 has, subS_zero]
    rename_i c3
    split at h
    · rename_i c4
      split at h
      · cases h
      rename_i n b z hz
      obtain ⟨z1, z2, z3⟩ := sizeD_ok (by omega) he (by omega) (by omega) hz
      unfold textD at h
      split at h
      · cases h
      rename_i c5
      injection h with h1 h2 h3
      subst h1 h2 h3
      have hl : ((s.drop b).take n).length = n := subS_len (s := s) (a := b) (n := n) (by omega)
      refine ⟨by omega, by omega, rfl, rfl, by omega, ?_⟩
      rw [encL, textL_as (fun hh => c5 ?_), hl, ← z1, show b + n - a = (b - a) + n by omega, subS_add, show a + (b - a) = b by omega]
      · rfl
      · rw [hl] at hh
        obtain ⟨rfl, h2⟩ := hh
        refine ⟨rfl, ?_⟩
        have := subS_succ (s := s) (a := b) 0 (by omega)
        unfold subS at this
        rw [this] at h2
        exact h2
    · rename_i c4
      split at h
      · cases h
      rename_i n b z hz
      have hu := (s.getD a 0).toNat_lt
      obtain ⟨z1, z2, z3⟩ := sizeD_ok (by omega) he (by omega) (by omega) hz
      cases hL : listD (fun a m => itemD s d (b + n) a m) (b + n) (s.length + 1) b (m + 1) [] with
      | bad y p => rw [hL] at h; cases h
      | ok l a1 m1 =>
        rw [hL] at h
        injection h with h1 h2 h3
        subst h1 h2 h3
        obtain ⟨r, r1, r2, r3, r4, r5, r6⟩ := listD_ok (itemD_ok s d (b + n) (by omega)) _ _ _ _ _ _ _ hL (by omega) (by omega) (by omega)
        rw [List.nil_append] at r1
        rw [r1]
        subst r2
        have hr : (encLs r).length = n := by rw [r6, subS_len (by omega)]; omega
        refine ⟨by omega, by omega, ?_, by rw [cntI]; omega, r5, ?_⟩
        · rw [okD]; simp [r3]
        · rw [encL, hr, ← z1, r6, show b + n - b = n by omega, show b + n - a = (b - a) + n by omega, subS_add, show a + (b - a) = b by omega]
theorem textL_pos (t : List UInt8) : 0 < (textL t).length := by
  by_cases h : t.length = 1 ∧ (t.headD 0).toNat < 128
  · obtain ⟨c, rfl⟩ := List.length_eq_one_iff.1 h.1
    rw [textL_one (show c.toNat < 128 from h.2)]; exact Nat.one_pos
  · rw [textL_as h, List.length_append]; have := headL_pos 128 t.length; omega
theorem encL_pos : ∀ x : It, 0 < (encL x).length
  | .mk true b ks => by rw [encL, List.length_append]; have := headL_pos 192 (encLs ks).length; omega
  | .mk false b ks => by rw [encL]; exact textL_pos b
def BackI (s : List UInt8) (x : It) : Prop :=
  ∀ d e a m, okD x d = true → m + cntI x ≤ 5000 → a + (encL x).length ≤ e → e ≤ s.length → subS s a (encL x).length = encL x → (encL x).length < 18446744073709551616 → itemD s d e a m = .ok x (a + (encL x).length) (m + cntI x)
theorem subS_split {s p q : List UInt8} {a n : Nat} (h : subS s a n = p ++ q) (hn : n = p.length + q.length) : subS s a p.length = p ∧ subS s (a + p.length) q.length = q := by
  have h1 : subS s a p.length = p := by
    have := congrArg (List.take p.length) h
    rw [List.take_append_of_le_length (Nat.le_refl _), List.take_length] at this
    unfold subS at this ⊢
    rw [List.take_take, show min p.length n = p.length by omega] at this
    exact this
  refine ⟨h1, ?_⟩
  rw [hn, subS_add, h1] at h
  exact List.append_cancel_left h
theorem listD_of {s : List UInt8} {d e : Nat} : ∀ (ks : List It), (∀ k ∈ ks, BackI s k) → ∀ (q a m : Nat) (l : List It), okDs ks d = true → m + cntIs ks ≤ 5000 → e = a + (encLs ks).length → e ≤ s.length → subS s a (encLs ks).length = encLs ks → (encLs ks).length < 18446744073709551616 → e - a < q →
    listD (fun a m => itemD s d e a m) e q a m l = .ok (l ++ ks) e (m + cntIs ks)
  | _, _, 0, a, m, l, _, _, _, _, _, _, hq => by omega
  | [], _, q + 1, a, m, l, _, _, he, _, _, _, _ => by
    rw [encLs, List.length_nil, Nat.add_zero] at he
    rw [listD, if_neg (by omega), List.append_nil, cntIs, he]; rfl
  | k :: r, hks, q + 1, a, m, l, ho, hm, he, hes, hs, hl, hq => by
    rw [okDs, Bool.and_eq_true] at ho
    rw [cntIs] at hm
    have h0 := encL_pos k
    rw [encLs, List.length_append] at he hl
    rw [encLs] at hs
    obtain ⟨s1, s2⟩ := subS_split hs (by rw [List.length_append])
    have h1 := hks k (by simp) d e a m ho.1 (by omega) (by omega) hes s1 (by omega)
    rw [listD, if_pos (by omega)]
    rw [h1]
    dsimp only
    rw [listD_of r (fun k hk => hks k (by simp [hk])) q _ _ _ ho.2 (by omega) (by omega) hes s2 (by omega) (by omega), List.append_assoc, cntIs, Nat.add_assoc]
    rfl
theorem itemD_of (s : List UInt8) (x : It) : BackI s x := by
  induction x using It.ind with
  | h x ih =>
    obtain ⟨l, b, ks⟩ := x
    intro d e a m ho hm hae hes hs hl
    have h0 := encL_pos (.mk l b ks)
    cases d with
    | zero => rw [okD] at ho; cases ho
    | succ d =>
    rw [okD, Bool.and_eq_true] at ho
    have hm1 : ¬ 5000 ≤ m := by rw [cntI] at hm; omega
    rw [itemD_succ]; unfold stepD; rw [if_neg hm1, if_neg (by omega)]
    cases l with
    | false =>
      have hk : ks = [] := by simpa [List.isEmpty_iff] using ho.1
      subst hk
      rw [encL] at hs hae hl ⊢
      by_cases h : b.length = 1 ∧ (b.headD 0).toNat < 128
      · obtain ⟨c, rfl⟩ := List.length_eq_one_iff.1 h.1
        have h2 : c.toNat < 128 := h.2
        rw [textL_one h2] at hs hae hl ⊢
        have := (subS_head (n := 0) hs).1
        rw [this, if_pos h2]
        rfl
      · rw [textL_as h] at hs hae hl ⊢
        rw [List.length_append] at hs hae hl ⊢
        obtain ⟨s1, s2⟩ := subS_split hs rfl
        have hz := sizeD_of (e := e) (by decide) (by omega) s1 (by omega)
        have hb : 128 ≤ (s.getD a 0).toNat ∧ (s.getD a 0).toNat < 192 := by
          have hq := headL_len 128 b.length
          by_cases c : b.length ≤ 55
          · rw [if_pos c] at hq; rw [hq, headL_le c] at s1
            rw [(subS_head (n := 0) s1).1, u8_to (by omega)]; omega
          · rw [if_neg c, Nat.add_comm] at hq; rw [hq, headL_gt c] at s1
            have := lenL_len (n := b.length) (by omega)
            rw [(subS_head s1).1, u8_to (by omega)]; omega
        rw [if_neg (by omega), if_pos hb.2, hz]
        dsimp only
        unfold textD
        unfold subS at s2
        rw [if_neg, s2, Nat.add_assoc]
        · rfl
        · rintro ⟨h1, h2⟩
          refine h ⟨h1, ?_⟩
          rw [h1] at s2
          have := (subS_head (s := s) (n := 0) (c := b.headD 0) (t := []) (a := a + (headL 128 b.length).length) ?_).1
          · rw [← this]; exact h2
          · unfold subS; rw [show 0 + 1 = 1 from rfl, h1, s2]
            obtain ⟨c, rfl⟩ := List.length_eq_one_iff.1 h1
            rfl
    | true =>
      have hb0 : b = [] := by simpa [List.isEmpty_iff] using ho.1
      subst hb0
      rw [encL] at hs hae hl ⊢
      rw [List.length_append] at hs hae hl ⊢
      obtain ⟨s1, s2⟩ := subS_split hs rfl
      have hz := sizeD_of (e := e) (by decide) (by omega) s1 (by omega)
      have hb : 192 ≤ (s.getD a 0).toNat := by
        have hq := headL_len 192 (encLs ks).length
        by_cases c : (encLs ks).length ≤ 55
        · rw [if_pos c] at hq; rw [hq, headL_le c] at s1
          rw [(subS_head (n := 0) s1).1, u8_to (by omega)]; omega
        · rw [if_neg c, Nat.add_comm] at hq; rw [hq, headL_gt c] at s1
          have := lenL_len (n := (encLs ks).length) (by omega)
          rw [(subS_head s1).1, u8_to (by omega)]; omega
      rw [if_neg (by omega), if_neg (by omega), hz]
      dsimp only
      rw [cntI] at hm ⊢
      have := listD_of (s := s) (d := d) (e := a + (headL 192 (encLs ks).length).length + (encLs ks).length) ks (fun k hk => ih k hk) (s.length + 1) (a + (headL 192 (encLs ks).length).length) (m + 1) [] ho.2 (by omega) rfl (by omega) s2 (by omega) (by omega)
      rw [this]
      unfold packD
      dsimp only
      rw [List.nil_append, Nat.add_assoc, Nat.add_assoc]
mutual
theorem all_okD : ∀ (x : It) (d : Nat), d ≤ 17 → (allI x d).all (fun p => decide (p.1 ≤ 16) && wfI p.2) = okD x (17 - d)
  | .mk l b ks, d, hd => by
    rw [allI, List.all_cons]
    by_cases h : 16 < d
    · rw [if_pos h, show 17 - d = 0 by omega, okD, decide_eq_false (by omega)]; rfl
    · obtain ⟨k, hk⟩ : ∃ k, 17 - d = k + 1 := ⟨17 - d - 1, by omega⟩
      rw [if_neg h, all_okDs ks (d + 1) (by omega), hk, okD, show 17 - (d + 1) = k by omega, decide_eq_true (by omega), Bool.true_and]
      rfl
theorem all_okDs : ∀ (ks : List It) (d : Nat), d ≤ 17 → (allIs ks d).all (fun p => decide (p.1 ≤ 16) && wfI p.2) = okDs ks (17 - d)
  | [], d, hd => by rw [allIs, okDs]; rfl
  | k :: r, d, hd => by rw [allIs, List.all_append, all_okD k d hd, all_okDs r d hd, okDs]
end
mutual
theorem all_cnt : ∀ (x : It) (d : Nat), d ≤ 17 → okD x (17 - d) = true → (allI x d).length = cntI x
  | .mk l b ks, d, hd, h => by
    by_cases h16 : 16 < d
    · rw [show 17 - d = 0 by omega, okD] at h; cases h
    · obtain ⟨k, hk⟩ : ∃ k, 17 - d = k + 1 := ⟨17 - d - 1, by omega⟩
      rw [hk, okD, Bool.and_eq_true] at h
      rw [allI, if_neg h16, List.length_cons, all_cnts ks (d + 1) (by omega) (by rw [show 17 - (d + 1) = k by omega]; exact h.2), cntI, Nat.add_comm]
theorem all_cnts : ∀ (ks : List It) (d : Nat), d ≤ 17 → okDs ks (17 - d) = true → (allIs ks d).length = cntIs ks
  | [], d, hd, _ => by rw [allIs, cntIs]; rfl
  | k :: r, d, hd, h => by
    rw [okDs, Bool.and_eq_true] at h
    rw [allIs, List.length_append, all_cnt k d hd h.1, all_cnts r d hd h.2, cntIs]
end
theorem rightI_eq (x : It) : rightI x = (okD x 16 && decide (cntI x ≤ 5000)) := by
  unfold rightI
  rw [all_okD x 1 (by decide)]
  show (_ && okD x 16) = _
  cases h : okD x 16 with
  | false => rw [Bool.and_false, Bool.false_and]
  | true => rw [all_cnt x 1 (by decide) h, Bool.and_true, Bool.true_and]
theorem rightI_ok {x : It} (h : rightI x = true) : okD x 16 = true ∧ cntI x ≤ 5000 := by
  rw [rightI_eq, Bool.and_eq_true, decide_eq_true_eq] at h; exact h
theorem item_of {x : It} (hr : rightI x = true) (r : List UInt8) (hl : (encL x).length < 18446744073709551616) : itemD (encL x ++ r) 16 (encL x ++ r).length 0 0 = .ok x (encL x).length (cntI x) := by
  obtain ⟨h1, h2⟩ := rightI_ok hr
  have := itemD_of (encL x ++ r) x 16 (encL x ++ r).length 0 0 h1 (by omega) (by rw [List.length_append]; omega) (Nat.le_refl _) (by unfold subS; rw [List.drop_zero, List.take_append_of_le_length (Nat.le_refl _), List.take_length]) hl
  rw [this, Nat.zero_add, Nat.zero_add]
theorem decD_back {x : It} (hr : rightI x = true) (hl : (encL x).length ≤ 1048576) : decD (encL x) = (x, 0, 0) := by
  have h := item_of hr [] (by omega)
  rw [List.append_nil] at h
  unfold decD wholeD
  rw [if_neg (by omega), h]
  dsimp only
  rw [if_neg (Nat.lt_irrefl _)]
end Go.Ev
set_option linter.unusedSimpArgs false
set_option linter.unusedVariables false
namespace Go.Ev
end Go.Ev
namespace Go.Proofs.YtolmipnaheifcaaGreatDoor
open Go Go.Ev Go.Proofs
set_option maxRecDepth 100000
set_option maxHeartbeats 4000000
end Go.Proofs.YtolmipnaheifcaaGreatDoor
set_option linter.unusedSimpArgs false
set_option linter.unusedVariables false
namespace Go.Ev
theorem W.ceqC (x y : W) : Go.Ev.eqC [.i, .i, .i, .i] x.cells y.cells = some (decide (x = y)) := by
  have h : ∀ (p q r s : Bool) (P : Prop) [Decidable P], (P ↔ (p = true ∧ q = true ∧ r = true ∧ s = true)) → (p && (q && (r && (s && true)))) = decide P := by
    intro p q r s P _ hh
    cases p <;> cases q <;> cases r <;> cases s <;> simp_all
  simp only [W.cells, Go.Ev.eqC, if_true, Option.map_some, Option.some.injEq]
  refine h _ _ _ _ _ ⟨fun h => by subst h; simp, fun h => ?_⟩
  simp only [beq_iff_eq] at h
  exact W.eq (by omega) (by omega) (by omega) (by omega)
theorem W.ceqV {P : Program} {t : TypeId} (x y : W) (h1 : tyI P t = some (4, true)) (h2 : P.eqGuardType P.depth t = false) (h3 : flatK P 12 t = some [.i, .i, .i, .i]) : Go.Ev.eqV P t x.v y.v = some (decide (x = y)) := by
  unfold Go.Ev.eqV W.v
  simp only [h1, h2, h3, Bool.false_eq_true, if_false, Option.bind_some]
  exact W.ceqC x y
theorem W.ceql {P : Program} {t : TypeId} (x y : W) (h1 : tyI P t = some (4, true)) (h2 : P.eqGuardType P.depth t = false) (h3 : flatK P 12 t = some [.i, .i, .i, .i]) : binQ P .eql t x.v y.v = some (.bool (decide (x = y))) := by
  show (Go.Ev.eqV P t x.v y.v).map Value.bool = _
  rw [W.ceqV x y h1 h2 h3]; rfl
theorem W.cneq {P : Program} {t : TypeId} (x y : W) (h1 : tyI P t = some (4, true)) (h2 : P.eqGuardType P.depth t = false) (h3 : flatK P 12 t = some [.i, .i, .i, .i]) : binQ P .neq t x.v y.v = some (.bool (!decide (x = y))) := by
  show (Go.Ev.eqV P t x.v y.v).map (fun r => Value.bool !r) = _
  rw [W.ceqV x y h1 h2 h3]; rfl
attribute [push_cast] W.ceql W.cneq
end Go.Ev
namespace Go.Proofs.YtolmipnaheifcaaGreatDoor
open Go Go.Ev Go.Proofs
set_option maxRecDepth 100000
set_option maxHeartbeats 4000000
noncomputable def gT : Gam := gK
end Go.Proofs.YtolmipnaheifcaaGreatDoor
set_option linter.unusedSimpArgs false
set_option linter.unusedVariables false
namespace Go.Proofs.YtolmipnaheifcaaGreatDoor
open Go Go.Ev Go.Proofs
set_option maxRecDepth 100000
set_option maxHeartbeats 4000000
theorem refBytes (w : W) : CallsV Tryz.prog 35 [w.v] [] (Ret0 (.string ⟨(wbytes w).toArray⟩)) := by
  refine callsO (noG_ok _) Tryz.mix Tryz.pl35 Tryz.func35 rfl Tryz.ntmps35 Tryz.results35 rfl (by first | rfl | assumption) (Nat.le_of_ble_eq_true rfl) (by kernel_rfl) ?_
  simp only [push_cast, seval, reduceCtorEq]
  intro b1
  refine (digits_ok w).use trivial fun v1 N1 ho1 => ⟨ho1.wr.1, ho1.wr.2, fun hf1 => ?_⟩
  obtain ⟨bx, cx, rfl, hcx, -, rfl⟩ := ho1.pos (by decide)
  simp only [push_cast, seval, reduceCtorEq] at hf1
  obtain ⟨Ex, hEx⟩ : ∃ e : Ent, e = ⟨bx, 0, .vec 3 1 cx, zs (digs w.num 32)⟩ := ⟨_, rfl⟩
  have Exk : Ex.kind = .vec 3 1 cx := by rw [hEx]
  have Exb : Ex.blk = bx := by rw [hEx]
  have Exo : Ex.off = 0 := by rw [hEx]
  have Exl : Ex.cells.length = 32 := by rw [hEx]; show (zs _).length = 32; rw [zs_len, digs_len]
  have Exm : marksOf [Ex] = [] := by rw [hEx]; rfl
  rw [← hEx]
  simp only [push_cast, seval, reduceCtorEq, hf1, Exb, Exk]
  refine loopO (noG_ok _) (pl := Tryz.pl35) Tryz.mix (X := Nat × Value × Hp)
    (fun s => ([(3, .slice (some ⟨bx, 0, none⟩) 32 cx), (4, s.2.1), (5, .int .i64 ((s.1 : Int) - 1))], s.2.2 ++ [Ex]))
    (fun s => s.1 ≤ 32 ∧ OutC 5 1 (byteV ((wbytes w).take (32 - s.1))) (32 - s.1) s.2.1 s.2.2 ∧ freshN s.2.2 [Ex]) (fun s => s.1) (32, .slice none 0 0, []) ?_ ?_ (by kernel_rfl) ?_
  · exact ⟨Nat.le_refl _, .nil _ _, trivial⟩
  · simp only [push_cast, seval, reduceCtorEq, hf1, Exb, Exk]
    done
  · rintro ⟨s, vo, No⟩ ⟨hi, ho, hf⟩
    dsimp only at hi ho hf ⊢
    have f0 : findE [Ex] bx = some Ex := by simp [findE, Exb]
    have fb : findE (No ++ [Ex]) bx = some Ex := by rw [findE_freshN hf f0]; exact f0
    rcases Nat.eq_zero_or_pos s with rfl | h0
    · obtain ⟨bz, cz, rfl, hcz, hzl, rfl⟩ := ho.pos (by decide)
      have hw := wbytes_len w
      have hbo := bytesOf_byteV (wbytes w)
      have e32 : List.take (32 - 0) (wbytes w) = wbytes w := List.take_of_length_le (by rw [hw]; exact Nat.le_refl _)
      have htk : List.take 32 (byteV (wbytes w)) = byteV (wbytes w) := List.take_of_length_le (by rw [byteV_len, hw]; exact Nat.le_refl _)
      have hbl : (byteV (wbytes w)).length = 32 := by rw [byteV_len, hw]
      rw [e32]
      simp only [push_cast, seval, reduceCtorEq, strOfV, htk, hbl, hbo]
      done
    · obtain ⟨i, rfl⟩ : ∃ i, s = i + 1 := ⟨s - 1, by omega⟩
      have ej : ((i + 1 : Nat) : Int) - 1 = (i : Int) := by omega
      have i0 : (0 : Int) ≤ (i : Int) := by omega
      have i1 : (i : Int) < 32 := by omega
      have i2 : i + 1 ≤ 32 := by omega
      rw [ej]
      have hdl := digN_lt w.num i
      have hat : List.take 1 (List.drop i Ex.cells) = [.int .i64 ((digN w.num i : Nat) : Int)] := by
        rw [hEx]
        show List.take 1 (List.drop i (zs (digs w.num 32))) = _
        have hl : i < (digs w.num 32).length := by rw [digs_len]; omega
        unfold zs
        rw [← List.map_drop, ← List.map_take, List.drop_eq_getElem_cons hl, List.take_succ_cons, List.take_zero, List.map_cons, List.map_nil]
        simp [digs]
      have hk1 : 31 - i < (wbytes w).length := by rw [wbytes_len]; omega
      have hby := byteV_take (wbytes w) hk1
      have hge : (wbytes w)[31 - i] = UInt8.ofNat (digN w.num i) := by
        have := wbytes_at w (j := 31 - i) (by omega)
        rw [List.getElem?_eq_getElem hk1, show 31 - (31 - i) = i by omega] at this
        exact Option.some.inj this
      rw [hge, ofNat_dig, show 31 - i + 1 = 32 - i by omega, show 31 - i = 32 - (i + 1) by omega] at hby
      simp only [push_cast, seval, reduceCtorEq, fb, i0, i1, i2, hat, Exk, Exo, Exl, wrap_u8' (n := ((digN w.num i : Nat) : Int)) (by omega)]
      intro b10 hb10
      refine append_out1 (e := 5) (sz := 1) (by_ := 1) (n := 32 - (i + 1)) (m := 1) (ys := [.int .u8 ((digN w.num i : Nat) : Int)]) ho hb10 (by simp only [push_cast, seval, reduceCtorEq]) (by simp only [push_cast, seval, reduceCtorEq]) rfl rfl (by unfold two47; omega) fun v' N' ho' hf' => ?_
      simp only [push_cast, seval, reduceCtorEq, wrap_i64' (show -9223372036854775808 ≤ (i : Int) - 1 ∧ (i : Int) - 1 ≤ 9223372036854775807 by omega)]
      refine ⟨(i, v', N'), ⟨by dsimp only; omega, ?_, freshN_cons hf'⟩, by dsimp only; omega, ⟨rfl, rfl⟩, subH_pre (subH_cons (fresh_app hb10)) _, ?_⟩
      · dsimp only
        rw [hby, show 32 - i = 32 - (i + 1) + 1 by omega]
        exact ho'
      · simp only [marks_append, marksOf, ho.wr.2, ho'.wr.2]
end Go.Proofs.YtolmipnaheifcaaGreatDoor
set_option linter.unusedSimpArgs false
set_option linter.unusedVariables false
namespace Go.Ev
noncomputable def cF : Nat → (Nat → Value) → List Value := hid fun n f => (List.range n).map f
theorem cF_eq (n : Nat) (f : Nat → Value) : cF n f = (List.range n).map f := by unfold cF; rw [hid_eq]
theorem cF_len (n : Nat) (f : Nat → Value) : (cF n f).length = n := by rw [cF_eq, List.length_map, List.length_range]
theorem cF_get (n : Nat) (f : Nat → Value) (i : Nat) : (cF n f)[i]? = if i < n then some (f i) else none := by
  rw [cF_eq, List.getElem?_map]
  split
  · rename_i h; rw [List.getElem?_range h]; rfl
  · rename_i h; rw [List.getElem?_eq_none (by simpa using h)]; rfl
theorem cF_at (n : Nat) (f : Nat → Value) {i : Nat} (h : i < n) : List.take 1 (List.drop i (cF n f)) = [f i] := by
  have hl : i < (cF n f).length := by rw [cF_len]; exact h
  rw [List.drop_eq_getElem_cons hl, List.take_succ_cons, List.take_zero]
  have := cF_get n f i
  rw [List.getElem?_eq_getElem hl, if_pos h] at this
  rw [Option.some.inj this]
def updV (f : Nat → Value) (i : Nat) (v : Value) : Nat → Value := fun j => if j = i then v else f j
theorem cF_set (n : Nat) (f : Nat → Value) {i : Nat} (h : i < n) (v : Value) : List.take i (cF n f) ++ v :: List.drop (i + 1) (cF n f) = cF n (updV f i v) := by
  have hl := cF_len n f
  refine List.ext_getElem? fun j => ?_
  rw [cF_get]
  have ht : (List.take i (cF n f)).length = i := by rw [List.length_take, hl]; omega
  rcases Nat.lt_trichotomy j i with h1 | rfl | h1
  · rw [List.getElem?_append_left (by omega), List.getElem?_take_of_lt h1, cF_get, if_pos (by omega), if_pos (by omega)]
    unfold updV; rw [if_neg (by omega : ¬ j = i)]
  · rw [List.getElem?_append_right (by omega), ht, Nat.sub_self, List.getElem?_cons_zero, if_pos h]
    unfold updV; rw [if_pos rfl]
  · rw [List.getElem?_append_right (by omega), ht, show j - i = (j - i - 1) + 1 by omega, List.getElem?_cons_succ, List.getElem?_drop, show i + 1 + (j - i - 1) = j by omega, cF_get]
    unfold updV; rw [if_neg (by omega : ¬ j = i)]
theorem cF_congr (n : Nat) {f g : Nat → Value} (h : ∀ j, j < n → f j = g j) : cF n f = cF n g := by
  rw [cF_eq, cF_eq]
  exact List.map_congr_left fun j hj => h j (List.mem_range.1 hj)
def byF (l : List UInt8) : Nat → Value := fun k => .int .u8 ((l.getD k 0).toNat : Nat)
theorem byteV_cF (l : List UInt8) : byteV l = cF l.length (byF l) := by
  refine List.ext_getElem? fun j => ?_
  rw [cF_get]
  unfold byteV byF
  rw [List.getElem?_map]
  split
  · rename_i h; rw [List.getElem?_eq_getElem h, List.getD_eq_getElem?_getD, List.getElem?_eq_getElem h]; rfl
  · rename_i h; rw [List.getElem?_eq_none (by omega)]; rfl
noncomputable def swpF (l : List UInt8) (i : Nat) : Nat → Value := fun k => if k < i ∨ l.length - i ≤ k then byF l (l.length - 1 - k) else byF l k
theorem swpF_zero (l : List UInt8) : cF l.length (swpF l 0) = byteV l := by
  rw [byteV_cF]
  exact cF_congr _ fun j hj => by unfold swpF; rw [if_neg (by omega)]
theorem swpF_step (l : List UInt8) {i : Nat} (h : i + i + 1 < l.length) : updV (updV (swpF l i) i (swpF l i (l.length - 1 - i))) (l.length - 1 - i) (swpF l i i) = swpF l (i + 1) := by
  funext k
  unfold updV
  have e1 : swpF l i (l.length - 1 - i) = byF l (l.length - 1 - i) := by unfold swpF; rw [if_neg (by omega)]
  have e2 : swpF l i i = byF l i := by unfold swpF; rw [if_neg (by omega)]
  rw [e1, e2]
  by_cases h1 : k = l.length - 1 - i
  · rw [if_pos h1]
    unfold swpF; rw [if_pos (by omega)]
    congr 1; omega
  · rw [if_neg h1]
    by_cases h2 : k = i
    · rw [if_pos h2]
      unfold swpF; rw [if_pos (by omega)]
      congr 1; omega
    · rw [if_neg h2]
      unfold swpF
      by_cases h3 : k < i ∨ l.length - i ≤ k
      · rw [if_pos h3, if_pos (by omega)]
      · rw [if_neg h3, if_neg (by omega)]
theorem swpF_done (l : List UInt8) {i : Nat} (h : l.length ≤ i + i + 1) : cF l.length (swpF l i) = byteV l.reverse := by
  rw [byteV_cF, List.length_reverse]
  refine cF_congr _ fun j hj => ?_
  have e : byF l.reverse j = byF l (l.length - 1 - j) := by
    unfold byF
    rw [List.getD_eq_getElem?_getD, List.getD_eq_getElem?_getD, List.getElem?_reverse hj]
  rw [e]
  unfold swpF
  split
  · rfl
  · congr 1; omega
end Go.Ev
namespace Go.Proofs.YtolmipnaheifcaaGreatDoor
open Go Go.Ev Go.Proofs
set_option maxRecDepth 100000
set_option maxHeartbeats 4000000
theorem reverse_ok (b c : Nat) (l : List UInt8) (hl : l.length < 4611686018427387904) : CallsV Tryz.prog 72 [.slice (some ⟨b, 0, none⟩) l.length c] [⟨b, 0, .vec 5 1 c, byteV l⟩] (fun r N => r = .tuple #[] ∧ N = [⟨b, 0, .vec 5 1 c, byteV l.reverse⟩]) := by
  refine callsO (noG_ok _) Tryz.mix Tryz.pl72 Tryz.func72 rfl Tryz.ntmps72 Tryz.results72 rfl (by first | rfl | assumption) (Nat.le_of_ble_eq_true rfl) (by kernel_rfl) ?_
  simp only [push_cast, seval, reduceCtorEq]
  refine loopO (noG_ok _) (pl := Tryz.pl72) Tryz.mix (X := Nat)
    (fun i => ([(0, .slice (some ⟨b, 0, none⟩) l.length c), (2, .int .i64 i), (3, .int .i64 ((l.length : Int) - 1 - (i : Int)))], [⟨b, 0, .vec 5 1 c, cF l.length (swpF l i)⟩]))
    (fun i => i ≤ l.length) (fun i => l.length - i) 0 ?_ ?_ (by kernel_rfl) ?_
  · exact Nat.zero_le _
  · rw [swpF_zero]
    simp only [push_cast, seval, reduceCtorEq, wrap_i64' (show -9223372036854775808 ≤ (l.length : Int) - 1 ∧ (l.length : Int) - 1 ≤ 9223372036854775807 by omega), Int.sub_zero]
  · intro i hi
    dsimp only at hi ⊢
    rcases Nat.lt_or_ge (i + i + 1) l.length with hlt | hge
    · obtain ⟨j, hj⟩ : ∃ j, j = l.length - 1 - i := ⟨_, rfl⟩
      have ej : (l.length : Int) - 1 - (i : Int) = (j : Int) := by omega
      have ij : (i : Int) < (j : Int) := by omega
      have i1 : (i : Int) < (l.length : Int) := by omega
      have j1 : (j : Int) < (l.length : Int) := by omega
      have i2 : i + 1 ≤ l.length := by omega
      have j2 : j + 1 ≤ l.length := by omega
      have hs := swpF_step l hlt
      rw [← hj] at hs
      have a1 := cF_at l.length (swpF l i) (i := i) (by omega)
      have a2 := cF_at l.length (swpF l i) (i := j) (by omega)
      obtain ⟨x, hx⟩ : ∃ x : Int, swpF l i i = .int .u8 x := by unfold swpF; split <;> exact ⟨_, rfl⟩
      obtain ⟨y, hy⟩ : ∃ x : Int, swpF l i j = .int .u8 x := by unfold swpF; split <;> exact ⟨_, rfl⟩
      rw [hx] at hs a1
      rw [hy] at hs a2
      have s1 := cF_set l.length (swpF l i) (i := i) (by omega) (.int .u8 y)
      have s2 := cF_set l.length (updV (swpF l i) i (.int .u8 y)) (i := j) (by omega) (.int .u8 x)
      rw [hs] at s2
      rw [ej]
      simp only [push_cast, seval, reduceCtorEq, ij, i1, j1, i2, j2, cF_len, a1, a2, s1, s2, wrap_i64' (show -9223372036854775808 ≤ (i : Int) + 1 ∧ (i : Int) + 1 ≤ 9223372036854775807 by omega), wrap_i64' (show -9223372036854775808 ≤ (j : Int) - 1 ∧ (j : Int) - 1 ≤ 9223372036854775807 by omega)]
      exact ⟨i + 1, by omega, by omega, ⟨rfl, by congr 1; omega⟩, rfl⟩
    · have hn : ¬ (i : Int) < (l.length : Int) - 1 - (i : Int) := by omega
      simp only [push_cast, seval, reduceCtorEq, hn]
      rw [swpF_done l hge]
      exact ⟨_, .refl _, rfl⟩
theorem clone_ok (b o n c : Nat) (l : List UInt8) (hl : l.length = n) (hn : n < 1099511627776) :
    CallsV Tryz.prog 71 [.slice (some ⟨b, o, none⟩) n c] [⟨b, o, .ro, byteV l⟩] (NewS 5 1 n (byteV l)) := by
  have tk : List.take n (byteV l) = byteV l := List.take_of_length_le (by rw [byteV_len, hl]; exact Nat.le_refl _)
  refine callsO (noG_ok _) Tryz.mix Tryz.pl71 Tryz.func71 rfl Tryz.ntmps71 Tryz.results71 rfl (by first | rfl | assumption) (Nat.le_of_ble_eq_true rfl) (by kernel_rfl) ?_
  simp only [push_cast, seval, reduceCtorEq]
  intro b1 hb1
  simp only [push_cast, seval, reduceCtorEq, hb1, byteV_len, hl, tk, two47, byteV_one]
  exact ⟨by omega, fun b2 c2 hb2 hc2 => sub1 ⟨b2, c2, rfl, hc2, rfl⟩⟩
theorem reversed_ok (b o n c : Nat) (l : List UInt8) (hl : l.length = n) (hn : n < 1099511627776) :
    CallsV Tryz.prog 51 [.slice (some ⟨b, o, none⟩) n c] [⟨b, o, .ro, byteV l⟩] (NewS 5 1 n (byteV l.reverse)) := by
  have tk : List.take n (byteV l) = byteV l := List.take_of_length_le (by rw [byteV_len, hl]; exact Nat.le_refl _)
  refine callsO (noG_ok _) Tryz.mix Tryz.pl51 Tryz.func51 rfl Tryz.ntmps51 Tryz.results51 rfl (by first | rfl | assumption) (Nat.le_of_ble_eq_true rfl) (by kernel_rfl) ?_
  simp only [push_cast, seval, reduceCtorEq]
  refine (clone_ok b o n c l hl hn).use ?_ ?_
  · simp only [push_cast, seval, reduceCtorEq, byteV_len, hl, tk]
  rintro v N ⟨b1, c1, rfl, hc1, rfl⟩
  simp only [push_cast, seval, reduceCtorEq]
  intro hb1
  have hr := reverse_ok b1 c1 l (by omega)
  rw [hl] at hr
  refine CallsV.useM (m := ⟨b1, 0, .vec 5 1 c1, byteV l⟩) (Hf := []) hr ?_ rfl trivial ?_
  · simp only [push_cast, seval, reduceCtorEq]
  rintro v N ⟨rfl, rfl⟩
  simp only [push_cast, seval, reduceCtorEq, hb1]
  exact sub1 ⟨b1, c1, rfl, hc1, rfl⟩
theorem last_ok (b n c : Nat) (hc : n ≤ c) (hn : n < 4611686018427387904) : CallsV Tryz.prog 52 [.slice (some ⟨b, 0, none⟩) n c, .int .i64 32] [] (Ret0 (.slice (some ⟨b, n - 32, none⟩) (n - (n - 32)) (c - (n - 32)))) := by
  have e1 : (if (n : Int) - 32 < 0 then (0 : Int) else (n : Int) - 32) = ((n - 32 : Nat) : Int) := by split <;> omega
  obtain ⟨k, hk⟩ : ∃ k, k = n - 32 := ⟨_, rfl⟩
  have k1 : k ≤ n := by omega
  have k2 : (k : Int) ≤ (n : Int) := by omega
  rw [← hk] at e1 ⊢
  refine callsO (noG_ok _) Tryz.mix Tryz.pl52 Tryz.func52 rfl Tryz.ntmps52 Tryz.results52 rfl (by first | rfl | assumption) (Nat.le_of_ble_eq_true rfl) (by kernel_rfl) ?_
  simp only [push_cast, seval, reduceCtorEq, wrap_i64' (show -9223372036854775808 ≤ (n : Int) - 32 ∧ (n : Int) - 32 ≤ 9223372036854775807 by omega), e1, hc, k1, k2]
  split
  · have k0 : k = 0 := by omega
    rw [k0]
  · rfl
end Go.Proofs.YtolmipnaheifcaaGreatDoor
