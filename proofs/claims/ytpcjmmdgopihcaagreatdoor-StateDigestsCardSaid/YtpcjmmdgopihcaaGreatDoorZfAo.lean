/- Texts of this claim, merged by program: Nc Nd Ne Nf Ng Nh. -/
import Derived.Test.YtpcjmmdgopihcaaGreatDoorZfAn
import Derived.Test.YtpcjmmdgopihcaaGreatDoorZfAi
import Derived.Test.YtpcjmmdgopihcaaGreatDoorZfAf
import Derived.Test.YtpcjmmdgopihcaaGreatDoorZfAj
import Derived.Test.YtpcjmmdgopihcaaGreatDoorZfAl
set_option linter.unusedSimpArgs false
set_option linter.unusedVariables false
namespace Go.Ev
inductive IvOk (M : Hp) : Iv → Prop
  | mk (x : Iv) (h1 : LiR Iv.cells 3 M x.kids x.sv) (h2 : x.kids.length ≤ 1099511627776) (h3 : ∀ k ∈ x.kids, IvOk M k) : IvOk M x
theorem IvOk.li {M : Hp} {x : Iv} (h : IvOk M x) : LiR Iv.cells 3 M x.kids x.sv := by cases h; assumption
theorem IvOk.len {M : Hp} {x : Iv} (h : IvOk M x) : x.kids.length ≤ 1099511627776 := by cases h; assumption
theorem IvOk.kid {M : Hp} {x : Iv} (h : IvOk M x) : ∀ k ∈ x.kids, IvOk M k := by cases h; assumption
theorem IvOk.congr {A B : Hp} (he : cellsAt A = cellsAt B) {x : Iv} (h : IvOk A x) : IvOk B x := by
  induction h with
  | mk x h1 h2 h3 ih => exact .mk x (h1.congr he) h2 ih
theorem IvOk.ext {A B : Hp} (he : Ext A B) {x : Iv} (h : IvOk A x) : IvOk B x := by
  induction h with
  | mk x h1 h2 h3 ih => exact .mk x (h1.ext he) h2 ih
theorem IvOk.text (M : Hp) (l : List UInt8) (b : Bool) (k : Nat) : IvOk M (.mk b l (.slice none 0 k) []) := .mk _ (LiR.nil _ _) (Nat.zero_le _) fun k hk => by cases hk
theorem subH_frontN (M : Hp) : ∀ (L : Hp), subH (L ++ M) L
  | [] => trivial
  | e :: r => by
    refine ⟨by simp [findE], ?_⟩
    simp only [List.cons_append, remE, if_true]
    exact subH_frontN M r
theorem Iv.all1 {x : Iv} (h : oneC x.sv = true) : x.cells.all oneC = true := by
  show (oneC (.bool x.list) && (oneC (.string (bs x.bytes)) && (oneC x.sv && true))) = true
  rw [h]; rfl
theorem encL_kids (x : It) (h : x.list = true) : encL x = headL 192 (encLs x.kids).length ++ encLs x.kids := by
  cases x with
  | mk l b ks =>
    have h : l = true := h
    subst h
    rw [encL]; rfl
theorem encL_text (x : It) (h : x.list = false) : encL x = textL x.bytes := by
  cases x with
  | mk l b ks =>
    have h : l = false := h
    subst h
    rw [encL]; rfl
theorem encLs_take (ks : List It) {i : Nat} {k : It} (h : ks[i]? = some k) : encLs (ks.take (i + 1)) = encLs (ks.take i) ++ encL k := by
  rw [encLs_flat, encLs_flat, List.take_add_one, h, List.map_append, List.flatten_append]
  simp
theorem encLs_le (ks : List It) (i : Nat) : (encLs (ks.take i)).length ≤ (encLs ks).length := by
  conv => rhs; rw [← List.take_append_drop i ks]
  rw [encLs_flat, encLs_flat, List.map_append, List.flatten_append, List.length_append]
  omega
theorem encLs_mem {ks : List It} {k : It} (h : k ∈ ks) : (encL k).length ≤ (encLs ks).length := by
  induction ks with
  | nil => cases h
  | cons y r ih =>
    rw [encLs, List.length_append]
    rcases List.mem_cons.1 h with rfl | h
    · omega
    · have := ih h; omega
end Go.Ev
namespace Go.Proofs.YtpcjmmdgopihcaaGreatDoor
open Go Go.Ev Go.Proofs
set_option maxRecDepth 100000
set_option maxHeartbeats 4000000
theorem itemIter {Hc : Hp} {ks : List Iv} {b1 : Nat} {k1 : Kind} {sv : Value} {cs0 : List Value} (hn : ks.length ≤ 1099511627776) (hmc : marksOf Hc = []) (h1 : findE Hc b1 = some ⟨b1, 0, k1, sv :: cs0⟩) (h2 : LiR Iv.cells 3 Hc ks sv) (hs : ∀ k ∈ ks, oneC k.sv = true) :
    IterV Tryz.prog 124 [.pointer (some ⟨b1, 0, none⟩)] Hc (ks.map fun k => [k.v]) := by
  obtain ⟨p, c, rfl, hla⟩ := h2.openC Iv.len (by decide)
  refine ⟨enterO Tryz.func124 rfl rfl, fun X Ho I St l x0 hro hmk h0 hy => ?_⟩
  have hmarks : ∀ x, marksOf (Hc ++ Ho x) = [] := fun x => by rw [marks_append, hmc, hmk]; rfl
  have hm0 := hmarks x0
  have h1' := fun z => findE_appT (B := Ho z) h1
  have l1 : 1 ≤ cs0.length + 1 := by omega
  have yl : ∀ (j : Nat) (z : X) (k : Iv) (e : Ent) (K' : Value → Hp → Prop), ks[j]? = some k → I j z → marksOf [e] = [] → (∀ x', I (j + 1) x' → K' (.bool true) (Hc ++ (Ho x' ++ [e]))) → (∀ x', St x' → K' (.bool false) (Hc ++ (Ho x' ++ [e]))) → YieldV Tryz.prog l [k.v] (e :: (Hc ++ Ho z)) K' := fun j z k e K' hj hi hme ht hf => by
    refine (hy j z [k.v] (by rw [List.getElem?_map, hj]; rfl) hi).frame2 ?_ hme ?_
    · rintro v H' (⟨rfl, x', _, rfl⟩ | ⟨rfl, x', _, rfl⟩) <;> exact hro z x'
    · rintro v H' (⟨rfl, x', h, rfl⟩ | ⟨rfl, x', h, rfl⟩)
      · exact ht x' h
      · exact hf x' h
  obtain ⟨vs, hvs⟩ : ∃ vs, vs = ks.map fun k => [k.v] := ⟨_, rfl⟩
  have hvl : vs.length = ks.length := by rw [hvs]; simp
  have yf : ∀ (x' : X), (I vs.length x' ∨ St x') → ∃ H'_1, List.Sublist H'_1 (dropM (Hc ++ Ho x')) ∧ ∃ z, (I vs.length z ∨ St z) ∧ H'_1 = Ho z := fun x' hst => by
    refine ⟨Ho x', ?_, x', hst, rfl⟩
    rw [dropM_eq (hmarks x')]
    exact List.sublist_append_right _ _
  have yf2 : ∀ (x' : X) (e : Ent), marksOf [e] = [] → (I vs.length x' ∨ St x') → ∃ H'_1, List.Sublist H'_1 (dropM (Hc ++ (Ho x' ++ [e]))) ∧ ∃ z, (I vs.length z ∨ St z) ∧ H'_1 = Ho z := fun x' e he hst => by
    refine ⟨Ho x', ?_, x', hst, rfl⟩
    rw [← List.append_assoc, dropM_eq (by rw [marks_append, hmarks, he]; rfl)]
    exact (List.sublist_append_right _ _).trans (List.sublist_append_left _ _)
  rw [← hvs]
  refine callsO gN2_ok Tryz.mix Tryz.pl124 Tryz.func124 rfl Tryz.ntmps124 Tryz.results124 rfl (by first | rfl | assumption) (Nat.le_of_ble_eq_true rfl) (by kernel_rfl) ?_
  simp only [push_cast, seval, reduceCtorEq, h1', l1]
  refine loopO gN2_ok (pl := Tryz.pl124) Tryz.mix (X := Nat × X)
    (fun s => ([(0, .func (.yield l) #[] #[]), (5, .slice p ks.length c), (6, .int .i64 ks.length), (7, .int .i64 s.1)], Hc ++ Ho s.2))
    (fun s => s.1 ≤ ks.length ∧ I s.1 s.2) (fun s => ks.length - s.1) (0, x0) ?_ ?_ (by kernel_rfl) ?_
  · exact ⟨Nat.zero_le _, h0⟩
  · simp only [push_cast, seval, reduceCtorEq, hm0, subH_self]
  · rintro ⟨i, z⟩ ⟨hi, hI⟩
    dsimp only at hi hI ⊢
    rcases Nat.lt_or_ge i ks.length with hlt | hge
    · obtain ⟨k, hk⟩ : ∃ k, ks[i]? = some k := ⟨ks[i], List.getElem?_eq_getElem hlt⟩
      rcases hla with rfl | ⟨b, f, d, kd, cs, rfl, he, hat⟩
      · simp at hk
      obtain ⟨a1, a2⟩ := hat i k hk
      have hee := fun x => findE_appT (B := Ho x) he
      have i1 : (i : Int) < (ks.length : Int) := by omega
      have kc : k.cells.all oneC = true := Iv.all1 (hs k (List.mem_of_getElem? hk))
      have k3 : List.take 3 k.cells = k.cells := List.take_of_length_le (Nat.le_of_eq rfl)
      have kv : Value.agg k.cells.toArray = k.v := rfl
      simp only [push_cast, seval, reduceCtorEq, h1', l1, i1, hlt, hee, a1, a2, kc, Iv.len, k3]
      intro b4 hb4
      refine yl i z k ⟨b4, 0, .cel 90, k.cells⟩ _ hk hI rfl (fun x' hx' => ?_) (fun x' hx' => ?_)
      · simp only [push_cast, seval, reduceCtorEq, wrap_i64' (show -9223372036854775808 ≤ (i : Int) + 1 ∧ (i : Int) + 1 ≤ 9223372036854775807 by omega)]
        refine ⟨(i + 1, x'), ⟨hlt, hx'⟩, by dsimp only; omega, ⟨rfl, ?_, ?_⟩⟩
        · rw [← List.append_assoc]; exact subH_frontN _ _
        · rw [← List.append_assoc, marks_append (Hc ++ Ho x')]; simp [marksOf]
      · simp only [push_cast, seval, reduceCtorEq]
        exact yf2 x' _ rfl (.inr hx')
    · obtain rfl : i = ks.length := by omega
      simp only [push_cast, seval, reduceCtorEq, h1', l1, Nat.lt_irrefl, Int.lt_irrefl]
      exact yf z (.inl (by rw [hvl]; exact hI))
end Go.Proofs.YtpcjmmdgopihcaaGreatDoor
set_option linter.unusedSimpArgs false
set_option linter.unusedVariables false
namespace Go.Ev
theorem roM.dupN {P : Program} {r : Option Nat} {n : Nat} {c : Code} {K : Exit → Tm → Hp → Prop} {T : Tm} {L M : Hp} (hr : roM M) (hL : freshN L M) (h : WpV P r n c K T (M ++ (L ++ M))) : WpV P r n c K T (L ++ M) := by
  intro w0 mu a w hro ht hs hd
  have hder := derE_mem hr.der
  have hk : ∀ e ∈ M, ¬ e.wr := fun e he hw => by unfold Ent.wr at hw; rw [(hder e he).1] at hw; exact hw
  obtain ⟨p1, p2, p3⟩ := List.pairwise_append.1 hs.apart
  refine h w0 mu a w hro ht ⟨hs.os, hs.tape, hs.output, hs.size, hs.old, fun e he => ?_, fun e he hw => ?_, List.pairwise_append.2 ⟨p2, hs.apart, fun x hx y hy hw => ?_⟩⟩ (by rw [hd]; unfold defersOf; rw [marks_append M, hr.marks]; rfl)
  · rcases List.mem_append.1 he with he | he
    · exact hs.ents e (List.mem_append_right L he)
    · exact hs.ents e he
  · rcases List.mem_append.1 he with he | he
    · exact absurd hw (hk e he)
    · exact hs.own e he hw
  · rcases List.mem_append.1 hy with hy | hy
    · exact (p3 y hy x hx (hw.symm)).symm
    · exact absurd hw (fun hw => hw.elim (hk x hx) (hk y hy))
theorem CallsV.preN {P : Program} {g : FuncId} {args : List Value} {H H' : Hp} {K : Value → Hp → Prop} (hp : H.Perm H') (hm : marksOf H' = marksOf H) (hc : CallsV P g args H' K) : CallsV P g args H K :=
  ⟨hc.1, fun w0 mu w hs => by have := hc.2 w0 mu w (hs.perm hp); rwa [hm] at this⟩
theorem find_behindN {L M : Hp} (hL : freshN L M) : ∀ b e, findE M b = some e → findE (L ++ M) b = some e := fun b e he => by rw [findE_freshN hL he]; exact he
theorem OutC.solid {e s n : Nat} {cs : List Value} {v : Value} {N : Hp} (h : OutC e s cs n v N) : ∀ x ∈ N, x.kind.solid = true := by
  rcases h with ⟨-, -, -, rfl⟩ | ⟨g, c, -, -, -, -, rfl⟩
  · intro x hx; cases hx
  · intro x hx; rw [List.mem_singleton.1 hx]; rfl
theorem cellsAt_open1 {M : Hp} {b : Nat} {v : Value} (h : cellsAt M b 0 1 = some [v]) : ∃ kd cs, findE M b = some ⟨b, 0, kd, v :: cs⟩ := by
  unfold cellsAt at h
  cases he : findE M b with
  | none => rw [he] at h; cases h
  | some e =>
    rw [he] at h
    have hb := (findE_mem he).2
    obtain ⟨b, f, kd, cs⟩ := e
    dsimp only at hb h
    subst hb
    by_cases hf : f ≤ 0
    · obtain rfl := Nat.le_zero.1 hf
      rw [if_pos hf] at h
      unfold subL at h
      split at h
      · have := Option.some.inj h
        rw [Nat.sub_self, List.drop_zero] at this
        cases cs with
        | nil => cases this
        | cons x r => injection this with h1; subst h1; exact ⟨kd, r, rfl⟩
      · cases h
    · rw [if_neg hf] at h; cases h
end Go.Ev
namespace Go.Proofs.YtpcjmmdgopihcaaGreatDoor
open Go Go.Ev Go.Proofs
set_option maxRecDepth 100000
set_option maxHeartbeats 4000000
theorem valuesN_ok (p : Option Addr) (n c : Nat) : CallsV Tryz.prog 102 [.slice p n c] [] (fun v N => ∃ b, v = .func (.func 124) #[] #[.pointer (some ⟨b, 0, none⟩)] ∧ N = [⟨b, 0, .cel 88, [.slice p n c]⟩]) := by
  refine callsO gN3_ok Tryz.mix Tryz.pl102 Tryz.func102 rfl Tryz.ntmps102 Tryz.results102 rfl (by first | rfl | assumption) (Nat.le_of_ble_eq_true rfl) (by kernel_rfl) ?_
  simp only [push_cast, seval, reduceCtorEq]
  intro b
  try simp only [push_cast, seval, reduceCtorEq]
  exact ⟨[_], List.Sublist.refl _, b, rfl, rfl⟩
theorem join_ok {M0 : Hp} (hr : roM M0) {ks : List Iv} {sv : Value} {b1 : Nat} {k1 : Kind} {cs0 : List Value} (h1 : findE M0 b1 = some ⟨b1, 0, k1, sv :: cs0⟩) (h2 : LiR Iv.cells 3 M0 ks sv) (hn : ks.length ≤ 1099511627776) (hs : ∀ k ∈ ks, IvOk M0 k)
    (henc : ∀ k ∈ ks, ∀ M1, roM M1 → IvOk M1 k → CallsV Tryz.prog 72 [k.v] M1 (Ret0 (.string (bs (encL k.it))))) (hlen : (encLs (ks.map Iv.it)).length ≤ 1099511627776) :
    CallsV Tryz.prog 101 [.func (.func 124) #[] #[.pointer (some ⟨b1, 0, none⟩)], .func (.func 72) #[] #[]] M0 (Ret0 (.string (bs (encLs (ks.map Iv.it))))) := by
  have hm := hr.marks
  obtain ⟨R, hR⟩ : ∃ R, R = bs (encLs (ks.map Iv.it)) := ⟨_, rfl⟩
  rw [← hR]
  have hit := itemIter hn hm h1 h2 (fun k hk => by obtain ⟨p, c, he, -⟩ := (hs k hk).li; rw [he]; rfl)
  refine callsO gN3_ok Tryz.mix Tryz.pl101 Tryz.func101 rfl Tryz.ntmps101 Tryz.results101 rfl (by first | rfl | assumption) (Nat.le_of_ble_eq_true rfl) (by kernel_rfl) ?_
  simp only [push_cast, seval, reduceCtorEq]
  intro b3 hb3 b5 hb5
  try simp only [push_cast, seval, reduceCtorEq, hb3, hb5]
  have f3 : fresh b3 M0 := hb3
  have f5 : fresh b5 M0 := hb5.2.2
  refine roM.dupN (M := M0) (L := [_, _]) hr ⟨f5, f3, trivial⟩ ?_
  obtain ⟨B3, hB3⟩ : ∃ B : Ent, B = ⟨b3, 0, .cel 107, [.func (.func 72) #[] #[]]⟩ := ⟨_, rfl⟩
  have hroM : ∀ x y : BldX, ∀ e ∈ bldH b5 y ++ (B3 :: M0), e.wr ∨ e ∈ bldH b5 x ++ (B3 :: M0) := fun x y e he => by
    rcases List.mem_append.1 he with h | h
    · exact .inl (bldH_wr b5 y e h)
    · exact .inr (List.mem_append_right _ h)
  have hmk : ∀ x : BldX, marksOf (bldH b5 x ++ (B3 :: M0)) = [] := fun x => by rw [marks_append, bldH_marks, hB3]; simp [marksOf, hm]
  refine rangeO gN3_ok (pl := Tryz.pl101) Tryz.mix (Hc := M0) (Hm := []) hit rfl
    (X := BldX) (fun s => bldH b5 s ++ (B3 :: M0))
    (fun k s => (s.1.1 = .pointer none ∨ s.1.1 = .pointer (some ⟨b5, 0, none⟩)) ∧ OutC 5 1 (byteV (encLs ((ks.map Iv.it).take k))) (encLs ((ks.map Iv.it).take k)).length s.1.2.1 s.1.2.2 ∧ freshN s.1.2.2 [⟨b5, 0, .cel 152, [s.1.1, s.1.2.1]⟩] ∧ freshN (bldH b5 s) (B3 :: M0)) (fun _ _ => False) ⟨(.pointer none, .slice none 0 0, []), trivial, rfl⟩
    ?_ ?_ ?_ hm (by simp) hmk hroM ?_ (by kernel_rfl) (by kernel_rfl) (fun _ _ h => h.elim) ?_ ?_ (fun _ _ _ _ h => h.elim)
  · refine ⟨.inl rfl, by rw [List.take_zero]; simp only [encLs]; exact OutC.nil _ _, trivial, ?_⟩
    rw [hB3]
    exact ⟨by simp only [push_cast, seval, reduceCtorEq, hb5, f5], trivial⟩
  · rw [hB3]
    exact subH_self _
  · simp [marksOf, marks_append, hm]
  · intro args ha
    obtain ⟨z, _, rfl⟩ := List.mem_map.1 ha
    rfl
  · rintro lo k s args hk ⟨hp, ho, hf, hfM⟩
    obtain ⟨x, hx, rfl⟩ := Option.map_eq_some_iff.1 ((List.getElem?_map ..).symm.trans hk)
    have hxm := List.mem_of_getElem? hx
    have hxi : (ks.map Iv.it)[k]? = some x.it := by rw [List.getElem?_map, hx]; rfl
    have htk := encLs_take (ks.map Iv.it) hxi
    have hle := encLs_le (ks.map Iv.it) (k + 1)
    rw [htk, List.length_append] at hle
    have hmk' := hmk s
    have xall : x.cells.all oneC = true := Iv.all1 (by obtain ⟨p, c, he, -⟩ := (hs x hxm).li; rw [he]; rfl)
    have x3 : List.take 3 x.cells = x.cells := List.take_of_length_le (Nat.le_of_eq rfl)
    have xv : x.v.cells.toList = x.cells := rfl
    generalize hRK : (roundK _ _ _ k : Exit → Tm → Hp → Prop) = RK
    show oC _ _ _ _ _ _ _ (parT 14 _ _ [x.v]) _
    have hf3 : findE (bldH b5 s ++ (B3 :: M0)) b3 = some ⟨b3, 0, .cel 107, [.func (.func 72) #[] #[]]⟩ := find_behindN hfM b3 _ (by rw [hB3]; simp only [push_cast, seval, reduceCtorEq])
    simp only [push_cast, seval, reduceCtorEq, hmk', xall, x3, Iv.len, xv]
    intro b6 hb6
    have d36 := (fresh_findS hb6 hf3).2
    have f6 : fresh b6 (B3 :: M0) := fresh_app hb6
    simp only [push_cast, seval, reduceCtorEq, hf3, d36]
    rw [show (⟨b6, 0, .cel 90, x.cells⟩ :: (bldH b5 s ++ B3 :: M0) : Hp) = (⟨b6, 0, .cel 90, x.cells⟩ :: (bldH b5 s ++ [B3])) ++ M0 by simp]
    refine useP (v := .string (bs (encL x.it))) _ (fun M1 hr1 he1 => henc x hxm M1 hr1 ((hs x hxm).congr he1.symm)) ?_ ?_
    · exact ⟨f6.2.2, freshN_appL.2 ⟨freshN_cons hfM, by rw [hB3]; exact f3, trivial⟩⟩
    rw [show (⟨b6, 0, .cel 90, x.cells⟩ :: (bldH b5 s ++ [B3])) ++ M0 = (⟨b6, 0, .cel 90, x.cells⟩ :: (bldH b5 s ++ B3 :: M0) : Hp) by simp]
    simp only [push_cast, seval, reduceCtorEq]
    refine CallsV.preN (H' := bldH b5 s ++ (⟨b6, 0, .cel 90, x.cells⟩ :: B3 :: M0)) List.perm_middle.symm (by simp [marks_append, marksOf]) ?_
    refine CallsV.useMs (Hw := bldH b5 s) (Hf := []) (by rw [List.append_nil]; exact write_ok b5 s.1.1 s.1.2.1 hp _ _ ho hf (bs (encL x.it)) (by rw [bs_size]; omega)) ?_ trivial ?_
    · intro e he
      rcases List.mem_append.1 he with h | h
      · exact ho.solid e h
      · rw [List.mem_singleton.1 h]; rfl
    · rintro v N ⟨rfl, v', N', ho', hf', rfl⟩
      refine ⟨allWr_app ho'.wr.1 ⟨trivial, trivial⟩, by rw [marks_append, ho'.wr.2]; rfl, fun hfN => ?_⟩
      rw [bs_data, ← htk] at ho'
      simp only [push_cast, seval, reduceCtorEq]
      rw [← hRK]
      refine ⟨⟨(.pointer (some ⟨b5, 0, none⟩), v', N'), ho'.wr⟩, ⟨.inr rfl, ho', hf', freshN_cons hfN⟩, ?_⟩
      show subH _ (bldH b5 _ ++ _)
      unfold bldH
      rw [List.append_assoc]
      exact subH_pre (subH_pre (subH_cons f6) [_]) N'
  · rintro D s hfD ⟨hp, ho, hf, hfM⟩
    have hmk' := hmk s
    rw [List.length_map, ← List.length_map (f := Iv.it), List.take_length] at ho
    simp only [push_cast, seval, reduceCtorEq]
    refine CallsV.preN (H' := bldH b5 s ++ (⟨D, 0, .obj (.deferred (some [])), []⟩ :: B3 :: M0)) List.perm_middle.symm (by simp [marks_append, marksOf, bldH_marks]) ?_
    refine CallsV.useMs (Hw := bldH b5 s) (Hf := []) (by rw [List.append_nil]; exact string_ok b5 s.1.1 s.1.2.1 (encLs (ks.map Iv.it)) (by omega) _ ho hf) ?_ trivial ?_
    · intro e he
      rcases List.mem_append.1 he with h | h
      · exact ho.solid e h
      · rw [List.mem_singleton.1 h]; rfl
    · rintro v N ⟨rfl, rfl⟩
      refine ⟨trivial, rfl, fun _ => ?_⟩
      simp only [push_cast, seval, reduceCtorEq]
      rw [hR]; rfl
end Go.Proofs.YtpcjmmdgopihcaaGreatDoor
set_option linter.unusedSimpArgs false
set_option linter.unusedVariables false
namespace Go.Ev
theorem textL_one {c : UInt8} (h : c.toNat < 128) : textL [c] = [c] := by unfold textL; dsimp only; rw [if_pos h]
theorem textL_long {l : List UInt8} (h : ∀ c, l = [c] → ¬ c.toNat < 128) : textL l = headL 128 l.length ++ l := by
  unfold textL
  split
  · rename_i c; rw [if_neg (h c rfl)]; rfl
  · rfl
theorem Iv.drop2 (x : Iv) : List.take 1 (List.drop 2 x.cells) = [x.sv] := rfl
end Go.Ev
namespace Go.Proofs.YtpcjmmdgopihcaaGreatDoor
open Go Go.Ev Go.Proofs
set_option maxRecDepth 100000
set_option maxHeartbeats 4000000
theorem encode_ok (x : Iv) : ∀ M0, roM M0 → IvOk M0 x → (encL x.it).length ≤ 1099511627776 → CallsV Tryz.prog 72 [x.v] M0 (Ret0 (.string (bs (encL x.it)))) := by
  induction x using Iv.ind with
  | h x ih =>
    intro M0 hr hx hlen
    have hm := hr.marks
    have hil := Iv.it_list x
    have hib := Iv.it_bytes x
    have hik := Iv.it_kids x
    have hv : x.v = .agg #[.bool x.list, .string (bs x.bytes), x.sv] := rfl
    rw [hv]
    obtain ⟨p, c, hsv, -⟩ := id hx.li
    obtain ⟨R, hR⟩ : ∃ R, R = bs (encL x.it) := ⟨_, rfl⟩
    rw [← hR]
    refine callsO gN3_ok Tryz.mix Tryz.pl72 Tryz.func72 rfl Tryz.ntmps72 Tryz.results72 rfl (by first | rfl | assumption) (Nat.le_of_ble_eq_true rfl) (by kernel_rfl) ?_
    simp only [push_cast, seval, reduceCtorEq, hsv]
    intro b1 hb1
    have hr1 : ∀ M1, roM M1 → cellsAt M1 = cellsAt M0 → IvOk M1 x := fun M1 _ he => hx.congr he.symm
    cases hl : x.list with
    | true =>
      rw [encL_kids _ (by rw [hil]; exact hl)] at hR hlen
      rw [hik] at hR hlen
      rw [List.length_append] at hlen
      simp only [push_cast, seval, reduceCtorEq]
      refine (valuesN_ok p x.kids.length c).use trivial ?_
      rintro _ _ ⟨b, rfl, rfl⟩
      refine ⟨⟨trivial, trivial⟩, rfl, fun hfn => ?_⟩
      simp only [push_cast, seval, reduceCtorEq] at hfn
      try simp only [push_cast, seval, reduceCtorEq, hfn]
      refine CallsV.preN (H' := [⟨b1, 0, .cel 90, [.bool true, .string (bs x.bytes), .slice p x.kids.length c]⟩] ++ (⟨b, 0, .cel 88, [.slice p x.kids.length c]⟩ :: M0)) (List.Perm.swap ..) (by simp [marksOf]) ?_
      have hxt : Ext M0 (⟨b, 0, .cel 88, [.slice p x.kids.length c]⟩ :: M0) := Ext.cons hm rfl hfn.2.2
      refine useP [_] (M := ⟨b, 0, .cel 88, [.slice p x.kids.length c]⟩ :: M0) (v := .string (bs (encLs (x.kids.map Iv.it)))) (fun M1 hr1 he1 => ?_) ?_ ?_
      · have hx1 : IvOk M1 x := (hx.ext hxt).congr he1.symm
        obtain ⟨kd, cs0, hf1⟩ := cellsAt_open1 (M := M1) (b := b) (v := .slice p x.kids.length c) (by rw [he1]; simp only [push_cast, seval, reduceCtorEq])
        exact join_ok hr1 hf1 (by rw [← hsv]; exact hx1.li) hx1.len hx1.kid (fun k hk M2 hr2 hk2 => ih k hk M2 hr2 hk2 (by have := encLs_mem (List.mem_map_of_mem (f := Iv.it) hk); omega)) (by omega)
      · exact ⟨⟨hfn.2.1, hfn.1, hb1⟩, trivial⟩
      obtain ⟨S, hS⟩ : ∃ S, S = encLs (x.kids.map Iv.it) := ⟨_, rfl⟩
      rw [← hS] at hR hlen ⊢
      have c1 : ((0 : Int) ≤ (S.length : Int)) := by omega
      have c2 : (S.length : Int) ≤ 1099511627776 := by omega
      have hcat : catB (headK 192 (S.length : Int)) (bs S) = some (.string R) := by
        rw [show headK 192 (S.length : Int) = bs (headL 192 S.length) from headK_eq 192 S.length, ncatB _ _ (by omega), hR]
      simp only [push_cast, seval, reduceCtorEq, c1, c2, hcat]
    | false =>
      rw [encL_text _ (by rw [hil]; exact hl)] at hR hlen
      rw [hib] at hR hlen
      obtain ⟨B, hB⟩ : ∃ B, B = x.bytes := ⟨_, rfl⟩
      rw [← hB] at hR hlen ⊢
      have long : (∀ c, B = [c] → ¬ c.toNat < 128) → B.length ≤ 1099511627776 ∧ catB (headK 128 (B.length : Int)) (bs B) = some (.string R) := fun h => by
        rw [textL_long h] at hR hlen
        rw [List.length_append] at hlen
        refine ⟨by omega, ?_⟩
        rw [show headK 128 (B.length : Int) = bs (headL 128 B.length) from headK_eq 128 B.length, ncatB _ _ (by omega), hR]
      by_cases h1 : B.length = 1
      · obtain ⟨c, rfl⟩ := List.length_eq_one_iff.1 h1
        have b0 : (bs [c]).data[0]? = some c := rfl
        have e2 : ([c] : List UInt8).length = 1 := rfl
        by_cases hc : c.toNat < 128
        · rw [textL_one hc] at hR
          have c1 : (c.toNat : Int) < 128 := by omega
          simp only [push_cast, seval, reduceCtorEq, b0, e2, c1, hc]
          rw [hR]
        · have c1 : ¬ (c.toNat : Int) < 128 := by omega
          obtain ⟨l1, l2⟩ := long (fun d hd => by injection hd with hd; subst hd; exact hc)
          have l3 : catB (headK 128 1) (bs [c]) = some (.string R) := l2
          simp only [push_cast, seval, reduceCtorEq, b0, e2, c1, hc, l3]
      · have c1 : ((B.length : Int) == 1) = false := by rw [beq_eq_false_iff_ne]; omega
        obtain ⟨l1, l2⟩ := long (fun d hd => by rw [hd] at h1; exact absurd rfl h1)
        have c2 : (0 : Int) ≤ (B.length : Int) := by omega
        have c3 : (B.length : Int) ≤ 1099511627776 := by omega
        simp only [push_cast, seval, reduceCtorEq, c1, c2, c3, l2]
end Go.Proofs.YtpcjmmdgopihcaaGreatDoor
set_option linter.unusedSimpArgs false
set_option linter.unusedVariables false
namespace Go.Ev
def roE (e : Ent) : Ent := { e with kind := .ro }
theorem Ent.cel_ro {w : World} {b : Nat} {t : TypeId} {cs : List Value} (h : (⟨b, 0, .cel t, cs⟩ : Ent).holds w) : (⟨b, 0, .ro, cs⟩ : Ent).holds w := by
  obtain ⟨-, h⟩ := h
  refine ⟨(Array.getElem?_eq_some_iff.1 h).1, fun k v hk => ?_⟩
  dsimp only at hk h ⊢
  simp only [World.cell?, h, Option.isSome_none, Bool.false_eq_true, if_false]
  simpa using hk
theorem marks_nobj : ∀ {A : Hp}, (∀ e ∈ A, ∃ t, e.kind = .cel t) → marksOf A = []
  | [], _ => rfl
  | x :: r, h => by
    obtain ⟨t, ht⟩ := h x (by simp)
    simp only [marksOf, ht]
    exact marks_nobj fun e he => h e (by simp [he])
theorem marks_ro2 : ∀ (A : Hp), marksOf (A.map roE) = []
  | [] => rfl
  | x :: r => by simp only [List.map_cons, roE, marksOf]; exact marks_ro2 r
theorem Sat.toRo {w0 w : World} {mu : Nat → Prop} {A H : Hp} (hA : ∀ e ∈ A, e.off = 0 ∧ ∃ t, e.kind = .cel t) (hs : Sat w0 mu (A ++ H) w) : Sat w0 mu (A.map roE ++ H) w := by
  obtain ⟨p1, p2, p3⟩ := List.pairwise_append.1 hs.apart
  refine ⟨hs.os, hs.tape, hs.output, hs.size, hs.old, fun e he => ?_, fun e he hw => ?_, List.pairwise_append.2 ⟨?_, p2, fun x hx y hy hw => ?_⟩⟩
  · rcases List.mem_append.1 he with he | he
    · obtain ⟨a, ha, rfl⟩ := List.mem_map.1 he
      have := hs.ents a (List.mem_append_left _ ha)
      obtain ⟨h0, t, ht⟩ := hA a ha
      obtain ⟨b, o, k, cs⟩ := a
      dsimp only at h0 ht
      subst h0 ht
      exact Ent.cel_ro this
    · exact hs.ents e (List.mem_append_right _ he)
  · rcases List.mem_append.1 he with he | he
    · obtain ⟨a, ha, rfl⟩ := List.mem_map.1 he
      exact absurd hw id
    · exact hs.own e (List.mem_append_right _ he) hw
  · refine List.pairwise_iff_forall_sublist.2 fun {a b} hab hw => ?_
    obtain ⟨x, _, rfl⟩ := List.mem_map.1 (hab.subset (by simp : a ∈ [a, b]))
    obtain ⟨y, _, rfl⟩ := List.mem_map.1 (hab.subset (by simp : b ∈ [_, b]))
    rcases hw with hw | hw <;> exact hw.elim
  · obtain ⟨a, ha, rfl⟩ := List.mem_map.1 hx
    obtain ⟨h0, t, ht⟩ := hA a ha
    exact p3 a ha y hy (.inl (by unfold Ent.wr; rw [ht]; trivial))
theorem CallsV.toRo {P : Program} {g : FuncId} {args : List Value} {A H : Hp} {K : Value → Hp → Prop} (hA : ∀ e ∈ A, e.off = 0 ∧ ∃ t, e.kind = .cel t) (hc : CallsV P g args (A.map roE ++ H) K) : CallsV P g args (A ++ H) K :=
  ⟨hc.1, fun w0 mu w hs => by
    have := hc.2 w0 mu w (hs.toRo hA)
    rwa [marks_append, marks_ro2, ← marks_nobj (A := A) (fun e he => (hA e he).2), ← marks_append] at this⟩
theorem IterV.toRo {P : Program} {gf : FuncId} {caps : List Value} {A Hc : Hp} {vs : List (List Value)} (hA : ∀ e ∈ A, e.off = 0 ∧ ∃ t, e.kind = .cel t) (h : IterV P gf caps (A.map roE ++ Hc) vs) : IterV P gf caps (A ++ Hc) vs :=
  ⟨h.1, fun X Ho I St l x0 hro hmk h0 hy => by
    have := h.2 X Ho I St l x0 hro hmk h0 hy
    rw [List.append_assoc] at this ⊢
    exact CallsV.toRo hA this⟩
theorem WpV.dupN {P : Program} {r : Option Nat} {n : Nat} {c : Code} {K : Exit → Tm → Hp → Prop} {T : Tm} {L M : Hp} (hr : ∀ e ∈ M, e.kind = .ro) (h : WpV P r n c K T (M ++ (L ++ M))) : WpV P r n c K T (L ++ M) := by
  have hk : ∀ e ∈ M, ¬ e.wr := fun e he hw => by unfold Ent.wr at hw; rw [hr e he] at hw; exact hw
  have hmM : marksOf M = [] := by
    clear h hk
    induction M with
    | nil => rfl
    | cons x r ih => simp only [marksOf, hr x (by simp)]; exact ih fun e he => hr e (by simp [he])
  intro w0 mu a w hro ht hs hd
  obtain ⟨p1, p2, p3⟩ := List.pairwise_append.1 hs.apart
  refine h w0 mu a w hro ht ⟨hs.os, hs.tape, hs.output, hs.size, hs.old, fun e he => ?_, fun e he hw => ?_, List.pairwise_append.2 ⟨p2, hs.apart, fun x hx y hy hw => ?_⟩⟩ (by rw [hd]; unfold defersOf; rw [marks_append M, hmM]; rfl)
  · rcases List.mem_append.1 he with he | he
    · exact hs.ents e (List.mem_append_right L he)
    · exact hs.ents e he
  · rcases List.mem_append.1 he with he | he
    · exact absurd hw (hk e he)
    · exact hs.own e he hw
  · rcases List.mem_append.1 hy with hy | hy
    · exact (p3 y hy x hx (hw.symm)).symm
    · exact absurd hw (fun hw => hw.elim (hk x hx) (hk y hy))
def mkD (D : Nat) : Ent := ⟨D, 0, .obj (.deferred (some [])), []⟩
theorem mkD_wr (Ds : List Nat) : ∀ e ∈ Ds.map mkD, e.wr := fun e he => by obtain ⟨D, -, rfl⟩ := List.mem_map.1 he; trivial
theorem mkD_marks : ∀ Ds : List Nat, marksOf (Ds.map mkD) = Ds
  | [] => rfl
  | D :: r => by simp only [List.map_cons, mkD, marksOf]; rw [mkD_marks r]
theorem dropM_app : ∀ (A B : Hp), dropM (A ++ B) = dropM A ++ dropM B
  | [], B => rfl
  | e :: r, B => by
    rw [List.cons_append, dropM, dropM, dropM_app r B]
    split <;> rfl
theorem dropM_mkD : ∀ Ds : List Nat, dropM (Ds.map mkD) = []
  | [] => rfl
  | D :: r => by rw [List.map_cons, dropM, dropM_mkD r]; rfl
end Go.Ev
set_option linter.unusedSimpArgs false
set_option linter.unusedVariables false
namespace Go.Ev
def allA (x : Iv) (d : Nat) : List (List Value) := (allV x d).map fun p => [.int .i64 (p.1 : Nat), p.2.v]
theorem allV_head (x : Iv) (d : Nat) : allV x d = (d, x) :: (if 16 < d then [] else allVs x.kids (d + 1)) := by
  cases x; rw [allV]; rfl
theorem allVs_take (ks : List Iv) (d : Nat) {i : Nat} {k : Iv} (h : ks[i]? = some k) : allVs (ks.take (i + 1)) d = allVs (ks.take i) d ++ allV k d := by
  induction ks generalizing i with
  | nil => simp at h
  | cons y r ih =>
    cases i with
    | zero => simp only [List.getElem?_cons_zero, Option.some.injEq] at h; subst h; simp [allVs]
    | succ i =>
      rw [List.getElem?_cons_succ] at h
      rw [List.take_succ_cons, allVs, ih h, List.take_succ_cons, allVs, List.append_assoc]
theorem allVs_pre (ks : List Iv) (d i : Nat) : ∃ r, allVs ks d = allVs (ks.take i) d ++ r := by
  induction ks generalizing i with
  | nil => exact ⟨[], by simp [allVs]⟩
  | cons y r ih =>
    cases i with
    | zero => exact ⟨_, by rw [List.take_zero]; simp only [allVs]; rfl⟩
    | succ i =>
      obtain ⟨q, hq⟩ := ih i
      exact ⟨q, by rw [allVs, List.take_succ_cons, allVs, hq, List.append_assoc]⟩
theorem allVs_mem {ks : List Iv} {d : Nat} {q : Nat × Iv} : q ∈ allVs ks d → ∃ k ∈ ks, q ∈ allV k d := by
  induction ks with
  | nil => intro h; simp [allVs] at h
  | cons y r ih =>
    intro h
    rw [allVs, List.mem_append] at h
    rcases h with h | h
    · exact ⟨y, by simp, h⟩
    · obtain ⟨k, hk, hq⟩ := ih h; exact ⟨k, by simp [hk], hq⟩
theorem allV_ok {M : Hp} (x : Iv) : ∀ {d : Nat}, IvOk M x → ∀ q ∈ allV x d, IvOk M q.2 := by
  induction x using Iv.ind with
  | h x ih =>
    intro d hx q hq
    rw [allV_head] at hq
    rcases List.mem_cons.1 hq with rfl | hq
    · exact hx
    · split at hq
      · cases hq
      · obtain ⟨k, hk, hq⟩ := allVs_mem hq
        exact ih k hk (hx.kid k hk) q hq
theorem IvOk.one {M : Hp} {x : Iv} (h : IvOk M x) : oneC x.sv = true := by obtain ⟨p, c, he, -⟩ := h.li; rw [he]; rfl
theorem all_at {x k : Iv} {d i j : Nat} {args : List Value} (hd : ¬ 16 < d) (hi : x.kids[i]? = some k) (hj : (allA k (d + 1))[j]? = some args) : (allA x d)[1 + (allVs (x.kids.take i) (d + 1)).length + j]? = some args := by
  have hjl : j < (allV k (d + 1)).length := by
    have := (List.getElem?_eq_some_iff.1 hj).1
    unfold allA at this
    rwa [List.length_map] at this
  obtain ⟨r, hr⟩ := allVs_pre x.kids (d + 1) (i + 1)
  rw [allVs_take x.kids (d + 1) hi] at hr
  unfold allA at hj ⊢
  rw [allV_head, if_neg hd, List.map_cons, show 1 + (allVs (x.kids.take i) (d + 1)).length + j = ((allVs (x.kids.take i) (d + 1)).length + j) + 1 by omega, List.getElem?_cons_succ, hr, List.append_assoc, List.map_append, List.getElem?_append_right (by rw [List.length_map]; omega), List.length_map, Nat.add_sub_cancel_left, List.map_append, List.getElem?_append_left (by rw [List.length_map]; exact hjl)]
  exact hj
theorem all_len {x : Iv} {d : Nat} (hd : ¬ 16 < d) : (allA x d).length = 1 + (allVs x.kids (d + 1)).length := by
  unfold allA
  rw [List.length_map, allV_head, if_neg hd, List.length_cons]; omega
theorem find_ds {q : Nat} {e : Ent} {base X : Hp} (h : findE base q = some e) : ∀ {Ds : List Nat}, freshN (Ds.map mkD) base → findE (Ds.map mkD ++ (base ++ X)) q = some e
  | [], _ => by rw [List.map_nil, List.nil_append]; exact findE_appT h
  | D :: r, hf => by
    have h1 : ¬ q = D := (fresh_findS (b := D) hf.1 h).2
    rw [List.map_cons, List.cons_append, findE, if_neg (show ¬ q = (mkD D).blk from h1)]
    exact find_ds h hf.2
end Go.Ev
namespace Go.Proofs.YtpcjmmdgopihcaaGreatDoor
open Go Go.Ev Go.Proofs
set_option maxRecDepth 100000
set_option maxHeartbeats 4000000
theorem rall_ok (x : Iv) (d : Int) (hs : oneC x.sv = true) : CallsV Tryz.prog 100 [x.v, .int .i64 d] [] (fun v N => ∃ b c, v = .func (.func 121) #[] #[.pointer (some ⟨c, 0, none⟩), .pointer (some ⟨b, 0, none⟩)] ∧ N = [⟨c, 0, .cel 3, [.int .i64 d]⟩, ⟨b, 0, .cel 90, x.cells⟩] ∧ ¬ c = b ∧ ¬ b = c) := by
  have xall : x.cells.all oneC = true := Iv.all1 hs
  have xv : x.v.cells.toList = x.cells := rfl
  refine callsO gN3_ok Tryz.mix Tryz.pl100 Tryz.func100 rfl Tryz.ntmps100 Tryz.results100 rfl (by first | rfl | assumption) (Nat.le_of_ble_eq_true rfl) (by kernel_rfl) ?_
  simp only [push_cast, seval, reduceCtorEq, xv]
  intro b c hc
  try simp only [push_cast, seval, reduceCtorEq, hc]
  exact ⟨[_, _], List.Sublist.refl _, b, c, rfl, rfl, hc.1, hc.2⟩
theorem rall1_ok (x : Iv) : ∀ (d : Nat) (Hc : Hp) (b c : Nat) (kb kc : Kind), (∀ e ∈ Hc, e.kind = .ro) → findE Hc b = some ⟨b, 0, kb, x.cells⟩ → findE Hc c = some ⟨c, 0, kc, [.int .i64 (d : Nat)]⟩ → IvOk Hc x → d ≤ 17 →
    IterV Tryz.prog 121 [.pointer (some ⟨c, 0, none⟩), .pointer (some ⟨b, 0, none⟩)] Hc (allA x d) := by
  induction x using Iv.ind with
  | h x ih =>
  intro d Hc b c kb kc hroc hb hc hx hd
  have hmc : marksOf Hc = [] := marks_ro hroc
  refine ⟨enterO Tryz.func121 rfl rfl, fun X Ho I St l x0 hro hmk h0 hy => ?_⟩
  have hmarks : ∀ x, marksOf (Hc ++ Ho x) = [] := fun x => by rw [marks_append, hmc, hmk]; rfl
  have hm0 := hmarks x0
  have hb' := fun z => findE_appT (B := Ho z) hb
  have hc' := fun z => findE_appT (B := Ho z) hc
  have hhead := allV_head x d
  obtain ⟨vs, hvs⟩ : ∃ vs, vs = allA x d := ⟨_, rfl⟩
  have hv0 : vs[0]? = some [.int .i64 (d : Nat), x.v] := by rw [hvs]; unfold allA; rw [hhead]; rfl
  rw [← hvs] at hy ⊢
  have yl : ∀ (j : Nat) (z : X) (args : List Value) (e : Ent) (A : Hp) (K' : Value → Hp → Prop), vs[j]? = some args → I j z → marksOf [e] = [] → (∀ x', I (j + 1) x' → K' (.bool true) (A ++ (Ho x' ++ [e]))) → (∀ x', St x' → K' (.bool false) (A ++ (Ho x' ++ [e]))) → YieldV Tryz.prog l args (e :: (A ++ Ho z)) K' := fun j z args e A K' hj hi hme ht hf => by
    refine (hy j z args hj hi).frame2 ?_ hme ?_
    · rintro v H' (⟨rfl, x', _, rfl⟩ | ⟨rfl, x', _, rfl⟩) <;> exact hro z x'
    · rintro v H' (⟨rfl, x', h, rfl⟩ | ⟨rfl, x', h, rfl⟩)
      · exact ht x' h
      · exact hf x' h
  obtain ⟨p, cc, hsv, -⟩ := id hx.li
  have c1l : List.take 1 (List.drop 2 x.cells) = [.slice p x.kids.length cc] := by rw [Iv.drop2, hsv]
  have c3l : List.take 3 x.cells = x.cells := List.take_of_length_le (Nat.le_of_eq rfl)
  have yf : ∀ (x' : X) (e : Ent), marksOf [e] = [] → (I vs.length x' ∨ St x') → ∃ H'_1, List.Sublist H'_1 (dropM (Hc ++ (Ho x' ++ [e]))) ∧ ∃ x, (I vs.length x ∨ St x) ∧ H'_1 = Ho x := fun x' e hm hst => by
    refine ⟨Ho x', ?_, x', hst, rfl⟩
    rw [← List.append_assoc, dropM_eq (by rw [marks_append, hmarks, hm]; rfl)]
    exact (List.sublist_append_right _ _).trans (List.sublist_append_left _ _)
  refine callsO gN3_ok Tryz.mix Tryz.pl121 Tryz.func121 rfl Tryz.ntmps121 Tryz.results121 rfl (by first | rfl | assumption) (Nat.le_of_ble_eq_true rfl) (by kernel_rfl) ?_
  simp only [push_cast, seval, reduceCtorEq]
  intro b3 hb3
  have d1 := (fresh_findS hb3 (hb' x0)).2
  have d2 := (fresh_findS hb3 (hc' x0)).2
  try simp only [push_cast, seval, reduceCtorEq, d1, d2, hb', hc', Iv.len, c3l]
  refine yl 0 x0 _ ⟨b3, 0, .cel 149, [.func (.yield l) #[] #[]]⟩ Hc _ hv0 h0 rfl (fun x' hx' => ?_) (fun x' hx' => ?_)
  · have hb2 := findE_appT (B := Ho x' ++ [⟨b3, 0, .cel 149, [.func (.yield l) #[] #[]]⟩]) hb
    have hc2 := findE_appT (B := Ho x' ++ [⟨b3, 0, .cel 149, [.func (.yield l) #[] #[]]⟩]) hc
    by_cases h16 : 16 < d
    · have k1 : (16 : Int) < (d : Int) := by omega
      simp only [push_cast, seval, reduceCtorEq, hb2, hc2, k1]
      exact yf x' _ rfl (.inl (by have hl : vs.length = 1 := by { rw [hvs]; unfold allA; rw [hhead, if_pos h16]; rfl }
                                  rw [hl]; exact hx'))
    · have k1 : ¬ (16 : Int) < (d : Int) := by omega
      simp only [push_cast, seval, reduceCtorEq, hb2, hc2, k1, Iv.len, c1l]
      obtain ⟨B3, hB3⟩ : ∃ B : Ent, B = ⟨b3, 0, .cel 149, [.func (.yield l) #[] #[]]⟩ := ⟨_, rfl⟩
      rw [← hB3]
      have mB3 : marksOf [B3] = [] := by rw [hB3]; rfl
      have f3 : fresh b3 Hc := (fresh_app_iff.1 hb3).1
      refine WpV.perm (H' := B3 :: (Hc ++ Ho x')) (by rw [← List.append_assoc]; exact List.perm_append_singleton ..) (by rw [← List.append_assoc, marks_append _ [B3], mB3, List.append_nil, hmarks, show B3 :: (Hc ++ Ho x') = [B3] ++ (Hc ++ Ho x') from rfl, marks_append, mB3, hmarks]; rfl) ?_
      have hF3 : findE (B3 :: Hc) b3 = some B3 := by rw [hB3]; simp [findE]
      have hFb : findE (B3 :: Hc) b = some ⟨b, 0, kb, x.cells⟩ := by rw [hB3, findE, if_neg d1]; exact hb
      have hFc : findE (B3 :: Hc) c = some ⟨c, 0, kc, [.int .i64 (d : Nat)]⟩ := by rw [hB3, findE, if_neg d2]; exact hc
      refine loopO gN3_ok (pl := Tryz.pl121) Tryz.mix (X := (Nat × X) × List Nat)
        (fun s => ([(1, .pointer (some ⟨c, 0, none⟩)), (2, .pointer (some ⟨b, 0, none⟩)), (3, .pointer (some ⟨b3, 0, none⟩)), (18, .slice p x.kids.length cc), (19, .int .i64 x.kids.length), (20, .int .i64 s.1.1)], s.2.map mkD ++ ((B3 :: Hc) ++ Ho s.1.2)))
        (fun s => s.1.1 ≤ x.kids.length ∧ I (1 + (allVs (x.kids.take s.1.1) (d + 1)).length) s.1.2 ∧ freshN (s.2.map mkD) (B3 :: Hc)) (fun s => x.kids.length - s.1.1) ((0, x'), []) ?_ ?_ (by kernel_rfl) ?_
      · exact ⟨Nat.zero_le _, by simpa [allVs] using hx', trivial⟩
      · simp only [push_cast, seval, reduceCtorEq]
        try exact subH_self _
      · rintro ⟨⟨i, z⟩, Ds⟩ ⟨hi, hI, hfD⟩
        dsimp only at hi hI hfD ⊢
        have hG3 : findE (Ds.map mkD ++ B3 :: (Hc ++ Ho z)) b3 = some _ := find_ds (X := Ho z) hF3 hfD
        have hGb : findE (Ds.map mkD ++ B3 :: (Hc ++ Ho z)) b = some _ := find_ds (X := Ho z) hFb hfD
        have hGc : findE (Ds.map mkD ++ B3 :: (Hc ++ Ho z)) c = some _ := find_ds (X := Ho z) hFc hfD
        have hmB : marksOf (B3 :: Hc ++ Ho z) = [] := by rw [List.cons_append, show B3 :: (Hc ++ Ho z) = [B3] ++ (Hc ++ Ho z) from rfl, marks_append, mB3, hmarks]; rfl
        rcases Nat.lt_or_ge i x.kids.length with hlt | hge
        · obtain ⟨k, hk⟩ : ∃ k, x.kids[i]? = some k := ⟨x.kids[i], List.getElem?_eq_getElem hlt⟩
          have hkm := List.mem_of_getElem? hk
          obtain ⟨p', cc', hsv', hla⟩ := hx.li.openC Iv.len (by decide)
          rw [hsv] at hsv'
          obtain ⟨rfl, rfl⟩ : p = p' ∧ cc = cc' := by injection hsv' with h1 h2 h3; exact ⟨h1, h3⟩
          rcases hla with hl0 | ⟨bb, f, dd, kd, cs, rfl, he, hat⟩
          · rw [hl0] at hk; simp at hk
          obtain ⟨a1, a2⟩ := hat i k hk
          have d3 := (fresh_findS f3 he).2
          have hFk : findE (B3 :: Hc) bb = some ⟨bb, f, kd, cs⟩ := by rw [hB3, findE, if_neg d3]; exact he
          have hGk : findE (Ds.map mkD ++ B3 :: (Hc ++ Ho z)) bb = some _ := find_ds (X := Ho z) hFk hfD
          have kok := hx.kid k hkm
          have k1one : oneC k.sv = true := by obtain ⟨p, c, he, -⟩ := kok.li; rw [he]; rfl
          have kall : k.cells.all oneC = true := Iv.all1 k1one
          have k3 : List.take 3 k.cells = k.cells := List.take_of_length_le (Nat.le_of_eq rfl)
          have i1 : (i : Int) < (x.kids.length : Int) := by omega
          simp only [push_cast, seval, reduceCtorEq, i1, hlt, hGk, a1, a2, kall, Iv.len, k3]
          intro b5 hb5
          have e5 := (fresh_findS hb5 hGc).2
          simp only [push_cast, seval, reduceCtorEq, e5, hGc, Iv.len, k3, wrap_i64' (show -9223372036854775808 ≤ (d : Int) + 1 ∧ (d : Int) + 1 ≤ 9223372036854775807 by omega)]
          rw [show (d : Int) + 1 = ((d + 1 : Nat) : Int) from rfl]
          refine (rall_ok k ((d + 1 : Nat) : Int) k1one).use trivial ?_
          rintro _ _ ⟨b', c', rfl, rfl, hne, hne2⟩
          refine ⟨⟨trivial, trivial, trivial⟩, rfl, fun hfn => ?_⟩
          simp only [push_cast, seval, reduceCtorEq]
          obtain ⟨C, hC⟩ : ∃ C : Ent, C = ⟨c', 0, .cel 3, [.int .i64 ((d + 1 : Nat) : Int)]⟩ := ⟨_, rfl⟩
          obtain ⟨Bk, hBk⟩ : ∃ C : Ent, C = ⟨b', 0, .cel 90, k.cells⟩ := ⟨_, rfl⟩
          obtain ⟨E5, hE5⟩ : ∃ C : Ent, C = ⟨b5, 0, .cel 90, k.cells⟩ := ⟨_, rfl⟩
          rw [← hE5] at hfn
          obtain ⟨fc', fb', -⟩ := hfn
          have gc := fresh_app fc'.2.2
          have gb := fresh_app fb'.2.2
          have hc'H : fresh c' Hc := (fresh_app_iff.1 gc.2.2).1
          have hb'H : fresh b' Hc := (fresh_app_iff.1 gb.2.2).1
          rw [show (⟨c', 0, .cel 3, [.int .i64 ((d : Int) + 1)]⟩ : Ent) = C from hC.symm, ← hBk, ← hE5]
          have mB : ∀ X : Hp, marksOf (B3 :: X) = marksOf X := fun X => by rw [hB3]; rfl
          have mC : ∀ X : Hp, marksOf (C :: X) = marksOf X := fun X => by rw [hC]; rfl
          have mK : ∀ X : Hp, marksOf (Bk :: X) = marksOf X := fun X => by rw [hBk]; rfl
          have mN : marksOf ([] : Hp) = [] := rfl
          have m5 : ∀ X : Hp, marksOf (E5 :: X) = marksOf X := fun X => by rw [hE5]; rfl
          refine WpV.perm (H' := ([C, Bk, E5] ++ (Ds.map mkD ++ (B3 :: Ho z))) ++ Hc) ?_ ?_ ?_
          · classical
            refine List.perm_iff_count.2 fun a => ?_
            simp only [List.count_append, List.count_cons, List.count_nil]
            omega
          · simp [marks_append, mB, mC, mK, m5, hmc, hmk, mkD_marks, mN]
          refine WpV.dupN (L := [C, Bk, E5] ++ (Ds.map mkD ++ (B3 :: Ho z))) hroc ?_
          refine WpV.perm (H' := ([C, Bk] ++ Hc) ++ ((Ds.map mkD ++ (B3 :: (Hc ++ Ho z))) ++ [E5])) ?_ ?_ ?_
          · classical
            refine List.perm_iff_count.2 fun a => ?_
            simp only [List.count_append, List.count_cons, List.count_nil]
            omega
          · simp [marks_append, mB, mC, mK, m5, hmc, hmk, mkD_marks, mN]
          have hit' : IterV Tryz.prog 121 [.pointer (some ⟨c', 0, none⟩), .pointer (some ⟨b', 0, none⟩)] ([C, Bk] ++ Hc) (allA k (d + 1)) := by
            refine IterV.toRo (A := [C, Bk]) ?_ ?_
            · intro e he
              rcases List.mem_cons.1 he with rfl | he
              · rw [hC]; exact ⟨rfl, _, rfl⟩
              · rw [List.mem_singleton.1 he, hBk]; exact ⟨rfl, _, rfl⟩
            have x1 : Ext Hc (roE Bk :: Hc) := Ext.cons hmc (by rw [hBk]; rfl) (by rw [hBk]; exact hb'H)
            have x2 : Ext (roE Bk :: Hc) (roE C :: roE Bk :: Hc) := Ext.cons (by rw [hBk]; exact hmc) (by rw [hC]; rfl) (by rw [hC, hBk]; exact ⟨hne, hne2, hc'H⟩)
            refine ih k hkm (d + 1) ([C, Bk].map roE ++ Hc) b' c' .ro .ro ?_ ?_ ?_ ((kok.ext x1).ext x2) (by omega)
            · intro e he
              rcases List.mem_append.1 he with he | he
              · obtain ⟨y, -, rfl⟩ := List.mem_map.1 he; rfl
              · exact hroc e he
            · rw [hC, hBk]; simp [findE, roE, hne2]
            · rw [hC, hBk]; simp [findE, roE]
          have hlk : (allA k (d + 1)).length = (allV k (d + 1)).length := by unfold allA; rw [List.length_map]
          have htk := allVs_take x.kids (d + 1) hk
          refine rangeO gN3_ok (pl := Tryz.pl121) Tryz.mix (Hc := [C, Bk] ++ Hc) (Hm := Ds.map mkD) hit' rfl
            (X := X) (fun z => B3 :: (Hc ++ Ho z)) (fun j z => I (1 + (allVs (x.kids.take i) (d + 1)).length + j) z) (fun c z => c = .ret ∧ St z) z
            ?_ ?_ ?_ ?_ (mkD_wr Ds) (fun z => ?_) (fun z y e he => ?_) ?_ (by kernel_rfl) (by kernel_rfl) ?_ ?_ ?_ ?_
          · exact hI
          · rw [show [C, Bk] ++ Hc ++ (Ds.map mkD ++ B3 :: (Hc ++ Ho z) ++ [E5]) = ([C, Bk] ++ Hc ++ (Ds.map mkD ++ B3 :: (Hc ++ Ho z))) ++ [E5] by simp only [List.append_assoc]]
            exact subH_frontN _ _
          · simp [marks_append, mB, mC, mK, m5, hmc, hmk, mkD_marks, mN]
          · simp [marks_append, mC, mK, hmc]
          · simp [marks_append, mB, hmc, hmk]
          · rcases List.mem_cons.1 he with rfl | he
            · exact .inr (by simp)
            rcases List.mem_append.1 he with he | he
            · exact .inr (by simp [he])
            · rcases hro z y e he with h | h
              · exact .inl h
              · exact .inr (by simp [h])
          · intro args ha
            obtain ⟨y, -, rfl⟩ := List.mem_map.1 ha
            rfl
          · rintro c' z' ⟨rfl, -⟩
            kernel_rfl
          · rintro lo j z1 args hj hI1
            have hat2 := all_at h16 hk hj
            rw [← hvs] at hat2
            obtain ⟨q, hq, rfl⟩ := Option.map_eq_some_iff.1 ((List.getElem?_map ..).symm.trans hj)
            subst hB3
            have qok := allV_ok k kok q (List.mem_of_getElem? hq)
            have qall : q.2.cells.all oneC = true := Iv.all1 qok.one
            have q3 : List.take 3 q.2.cells = q.2.cells := List.take_of_length_le (Nat.le_of_eq rfl)
            have qv : q.2.v.cells.toList = q.2.cells := rfl
            have hf3' : findE ((⟨b3, 0, .cel 149, [.func (.yield l) #[] #[]]⟩ : Ent) :: (Hc ++ Ho z1)) b3 = some ⟨b3, 0, .cel 149, [.func (.yield l) #[] #[]]⟩ := by simp [findE]
            have hmB1 : marksOf ((⟨b3, 0, .cel 149, [.func (.yield l) #[] #[]]⟩ : Ent) :: (Hc ++ Ho z1)) = [] := hmarks z1
            generalize hRK : (roundK _ _ _ j : Exit → Tm → Hp → Prop) = RK
            show oC _ _ _ _ _ _ _ (parT 36 _ _ [.int .i64 (q.1 : Nat), q.2.v]) _
            simp only [push_cast, seval, reduceCtorEq, hmB1, qall, q3, Iv.len, qv]
            intro b7 hb7
            have e7 := hb7.2.1
            simp only [push_cast, seval, reduceCtorEq, e7, q3, Iv.len]
            refine ⟨hmarks z1, roSub_of fun e he => .inr (List.mem_cons_of_mem _ he), ?_⟩
            refine yl _ z1 _ ⟨b7, 0, .cel 90, q.2.cells⟩ (_ :: Hc) _ hat2 hI1 rfl (fun x' hx' => ?_) (fun x' hx' => ?_)
            · simp only [push_cast, seval, reduceCtorEq]
              rw [← hRK]
              exact ⟨x', hx', by rw [← List.append_assoc]; exact subH_frontN [_] (_ :: (Hc ++ Ho x'))⟩
            · simp only [push_cast, seval, reduceCtorEq]
              rw [← hRK]
              exact ⟨x', ⟨rfl, hx'⟩, by rw [← List.append_assoc]; exact subH_frontN [_] (_ :: (Hc ++ Ho x'))⟩
          · rintro D z1 hfD1 hI1
            have hI2 : I (1 + (allVs (x.kids.take (i + 1)) (d + 1)).length) z1 := by
              rw [htk, List.length_append, ← Nat.add_assoc, ← hlk]; exact hI1
            have hD2 : fresh D (B3 :: Hc) := by
              have h1 := fresh_app hfD1
              rw [show B3 :: (Hc ++ Ho z1) = (B3 :: Hc) ++ Ho z1 from rfl] at h1
              exact (fresh_app_iff.1 h1).1
            have hxl := hx.len
            simp only [push_cast, seval, reduceCtorEq, wrap_i64' (show -9223372036854775808 ≤ (i : Int) + 1 ∧ (i : Int) + 1 ≤ 9223372036854775807 by omega)]
            exact ⟨((i + 1, z1), D :: Ds), ⟨hlt, hI2, hD2, hfD⟩, by dsimp only; omega, rfl, subH_self _, rfl⟩
          · rintro D cd z1 hfD1 ⟨rfl, hst⟩
            simp only [push_cast, seval, reduceCtorEq]
            refine ⟨Ho z1, ?_, z1, .inr hst, rfl⟩
            rw [dropM_app, dropM_mkD, List.nil_append, dropM_eq (by rw [mB]; exact hmarks z1), show B3 :: (Hc ++ Ho z1) = (B3 :: Hc) ++ Ho z1 from rfl]
            exact List.sublist_append_right _ _
        · obtain rfl : i = x.kids.length := by omega
          simp only [push_cast, seval, reduceCtorEq, Int.lt_irrefl]
          refine ⟨Ho z, ?_, z, .inl ?_, rfl⟩
          · rw [dropM_app, dropM_mkD, List.nil_append, show B3 :: (Hc ++ Ho z) = (B3 :: Hc) ++ Ho z from rfl, dropM_eq hmB]
            exact List.sublist_append_right _ _
          · rw [hvs, all_len h16]
            rw [List.take_length] at hI
            exact hI
  · simp only [push_cast, seval, reduceCtorEq]
    exact yf x' _ rfl (.inr hx')
end Go.Proofs.YtpcjmmdgopihcaaGreatDoor
set_option linter.unusedSimpArgs false
set_option linter.unusedVariables false
namespace Go.Ev
def okN (j : Nat) (p : Nat × Iv) : Bool := decide (j + 1 ≤ 5000) && (decide (p.1 ≤ 16) && wfI p.2.it)
theorem wfI_it (y : Iv) : wfI y.it = if y.list then y.bytes.isEmpty else y.kids.isEmpty := by
  unfold wfI
  rw [Iv.it_list, Iv.it_bytes, Iv.it_kids]
  cases y.list <;> simp [List.isEmpty_iff]
theorem rightI_it (x : Iv) : rightI x.it = (decide ((allV x 1).length ≤ 5000) && (allV x 1).all fun p => decide (p.1 ≤ 16) && wfI p.2.it) := by
  unfold rightI
  rw [← allV_it, List.length_map, List.all_map]
  rfl
theorem right_all {x : Iv} (h : ∀ j p, (allV x 1)[j]? = some p → okN j p = true) : rightI x.it = true := by
  rw [rightI_it, Bool.and_eq_true, decide_eq_true_eq, List.all_eq_true]
  refine ⟨?_, fun p hp => ?_⟩
  · rcases Nat.eq_zero_or_pos (allV x 1).length with h0 | h0
    · omega
    · have := h ((allV x 1).length - 1) _ (List.getElem?_eq_getElem (by omega))
      unfold okN at this
      rw [Bool.and_eq_true, decide_eq_true_eq] at this
      omega
  · obtain ⟨j, hj⟩ := List.getElem?_of_mem hp
    have := h j p hj
    unfold okN at this
    rw [Bool.and_eq_true] at this
    exact this.2
theorem right_not {x : Iv} {j : Nat} {p : Nat × Iv} (hj : (allV x 1)[j]? = some p) (h : okN j p = false) : rightI x.it = false := by
  cases hr : rightI x.it with
  | false => rfl
  | true =>
    rw [rightI_it, Bool.and_eq_true, decide_eq_true_eq, List.all_eq_true] at hr
    have hlt := (List.getElem?_eq_some_iff.1 hj).1
    have h2 := hr.2 p (List.mem_of_getElem? hj)
    unfold okN at h
    rw [decide_eq_true (by omega), Bool.true_and, h2] at h
    cases h
end Go.Ev
namespace Go.Proofs.YtpcjmmdgopihcaaGreatDoor
open Go Go.Ev Go.Proofs
set_option maxRecDepth 100000
set_option maxHeartbeats 4000000
def plRRN : Plans := fun i => if i = 6 then [(0, 9)] else Tryz.pl71 i
attribute [push_cast] plRRN
theorem rright_ok {M0 : Hp} (hr : roM M0) {x : Iv} (hx : IvOk M0 x) : CallsV Tryz.prog 71 [x.v] M0 (Ret0 (.bool (rightI x.it))) := by
  have hm := hr.marks
  have xall : x.cells.all oneC = true := Iv.all1 hx.one
  have xv : x.v.cells.toList = x.cells := rfl
  have x3 : List.take 3 x.cells = x.cells := List.take_of_length_le (Nat.le_of_eq rfl)
  obtain ⟨R, hR⟩ : ∃ R, R = rightI x.it := ⟨_, rfl⟩
  rw [← hR]
  refine callsO gN3_ok Tryz.mix plRRN Tryz.func71 rfl Tryz.ntmps71 Tryz.results71 rfl (by first | rfl | assumption) (Nat.le_of_ble_eq_true rfl) (by kernel_rfl) ?_
  simp only [push_cast, seval, reduceCtorEq, xv]
  intro b1 hb1 b2 hb2 b3 hb3
  try simp only [push_cast, seval, reduceCtorEq, hb2, hb3, x3, Iv.len]
  have hroM : ∀ e ∈ M0, e.kind = .ro := fun e he => (derE_mem hr.der e he).1
  have f1 : fresh b1 M0 := hb1
  refine (rall_ok x ((1 : Nat) : Int) hx.one).use trivial ?_
  rintro _ _ ⟨b', c', rfl, rfl, hne, hne2⟩
  refine ⟨⟨trivial, trivial, trivial⟩, rfl, fun hfn => ?_⟩
  have hfn0 := hfn
  simp only [push_cast, seval, reduceCtorEq] at hfn0
  simp only [push_cast, seval, reduceCtorEq, hb2, hb3]
  obtain ⟨C, hC⟩ : ∃ C : Ent, C = ⟨c', 0, .cel 3, [.int .i64 1]⟩ := ⟨_, rfl⟩
  obtain ⟨Bk, hBk⟩ : ∃ C : Ent, C = ⟨b', 0, .cel 90, x.cells⟩ := ⟨_, rfl⟩
  rw [← hC, ← hBk]
  have mC : ∀ X : Hp, marksOf (C :: X) = marksOf X := fun X => by rw [hC]; rfl
  have mK : ∀ X : Hp, marksOf (Bk :: X) = marksOf X := fun X => by rw [hBk]; rfl
  obtain ⟨fc', fb', -⟩ := hfn
  have hc'M : fresh c' M0 := fc'.2.2.2.2.2.2
  have hb'M : fresh b' M0 := fb'.2.2.2.2.2.2
  refine WpV.perm (H' := ([C, Bk] ++ M0) ++ ([⟨b3, 0, .cel 3, [.int .i64 0]⟩, ⟨b2, 0, .cel 4, [.bool false]⟩] ++ [⟨b1, 0, .cel 90, x.cells⟩])) ?_ ?_ ?_
  · classical
    refine List.perm_iff_count.2 fun a => ?_
    simp only [List.count_append, List.count_cons, List.count_nil]
    omega
  · subst hC hBk; simp [marks_append, hm, marksOf]
  have hit' : IterV Tryz.prog 121 [.pointer (some ⟨c', 0, none⟩), .pointer (some ⟨b', 0, none⟩)] ([C, Bk] ++ M0) (allA x 1) := by
    refine IterV.toRo (A := [C, Bk]) ?_ ?_
    · intro e he
      rcases List.mem_cons.1 he with rfl | he
      · rw [hC]; exact ⟨rfl, _, rfl⟩
      · rw [List.mem_singleton.1 he, hBk]; exact ⟨rfl, _, rfl⟩
    have x1 : Ext M0 (roE Bk :: M0) := Ext.cons hm (by rw [hBk]; rfl) (by rw [hBk]; exact hb'M)
    have x2 : Ext (roE Bk :: M0) (roE C :: roE Bk :: M0) := Ext.cons (by rw [hBk]; exact hm) (by rw [hC]; rfl) (by rw [hC, hBk]; exact ⟨hne, hne2, hc'M⟩)
    refine rall1_ok x 1 ([C, Bk].map roE ++ M0) b' c' .ro .ro ?_ ?_ ?_ ((hx.ext x1).ext x2) (by omega)
    · intro e he
      rcases List.mem_append.1 he with he | he
      · obtain ⟨y, -, rfl⟩ := List.mem_map.1 he; rfl
      · exact hroM e he
    · rw [hC, hBk]; simp [findE, roE, hne2]
    · rw [hC, hBk]; simp [findE, roE]
  refine rangeO gN3_ok (pl := plRRN) Tryz.mix (Hc := [C, Bk] ++ M0) (Hm := []) hit' rfl
    (X := Nat × Bool) (fun s => [⟨b3, 0, .cel 3, [.int .i64 s.1]⟩, ⟨b2, 0, .cel 4, [.bool s.2]⟩])
    (fun k s => s = (k, false) ∧ ∀ j p, j < k → (allV x 1)[j]? = some p → okN j p = true) (fun c s => c = .ret ∧ s.2 = false ∧ R = false) (0, false)
    ?_ ?_ ?_ ?_ (by simp) (fun s => rfl) (fun s u e he => .inl ?_) ?_ (by kernel_rfl) (by kernel_rfl) ?_ ?_ ?_ ?_
  · exact ⟨rfl, fun j p hj => absurd hj (Nat.not_lt_zero _)⟩
  · rw [← List.append_assoc]; exact subH_frontN _ _
  · subst hC hBk; simp [marks_append, hm, marksOf]
  · subst hC hBk; simp [marks_append, hm, marksOf]
  · simp at he; rcases he with rfl | rfl <;> trivial
  · intro args ha
    obtain ⟨y, -, rfl⟩ := List.mem_map.1 ha
    rfl
  · rintro c' z' ⟨rfl, -⟩
    kernel_rfl
  · rintro lo k s args hk ⟨rfl, hok⟩
    obtain ⟨q, hq, rfl⟩ := Option.map_eq_some_iff.1 ((List.getElem?_map ..).symm.trans hk)
    have qok := allV_ok x hx q (List.mem_of_getElem? hq)
    have qall : q.2.cells.all oneC = true := Iv.all1 qok.one
    have q3 : List.take 3 q.2.cells = q.2.cells := List.take_of_length_le (Nat.le_of_eq rfl)
    have qv : q.2.v.cells.toList = q.2.cells := rfl
    have hk5 : k ≤ 5000 := by
      rcases Nat.eq_zero_or_pos k with h0 | h0
      · omega
      · have hlt := (List.getElem?_eq_some_iff.1 hq).1
        have := hok (k - 1) _ (by omega) (List.getElem?_eq_getElem (by omega))
        unfold okN at this
        rw [Bool.and_eq_true, decide_eq_true_eq] at this
        omega
    generalize hRK : (roundK _ _ _ k : Exit → Tm → Hp → Prop) = RK
    show oC _ _ _ _ _ _ _ (parT 38 _ _ [.int .i64 (q.1 : Nat), q.2.v]) _
    dsimp only
    simp only [push_cast, seval, reduceCtorEq, hb2, hb3, qall, q3, Iv.len, qv]
    intro b5 hb5
    simp only [push_cast, seval, reduceCtorEq, hb2, hb3, hb5, wrap_i64' (show -9223372036854775808 ≤ (k : Int) + 1 ∧ (k : Int) + 1 ≤ 9223372036854775807 by omega)]
    refine regO gN3_ok ?_
    obtain ⟨p2, c2, hs2, -⟩ := id qok.li
    have qc : q.2.cells = [.bool q.2.list, .string (bs q.2.bytes), .slice p2 q.2.kids.length c2] := by rw [← hs2]; rfl
    have e1 : ByteArray.toList { data := #[] } = [] := bs_toList []
    have stop : ∀ T, okN k q = false → RK .ret T ([⟨b5, 0, .cel 90, q.2.cells⟩, ⟨b3, 0, .cel 3, [.int .i64 ((k : Int) + 1)]⟩, ⟨b2, 0, .cel 4, [.bool false]⟩]) := fun T h => by
      rw [← hRK]
      refine ⟨(k + 1, false), ⟨rfl, rfl, by rw [hR]; exact right_not hq h⟩, ?_⟩
      exact subH_cons (by simp only [push_cast, seval, reduceCtorEq, hb5])
    have next : ∀ T, okN k q = true → RK .normal T ([⟨b5, 0, .cel 90, q.2.cells⟩, ⟨b3, 0, .cel 3, [.int .i64 ((k : Int) + 1)]⟩, ⟨b2, 0, .cel 4, [.bool false]⟩]) := fun T h => by
      rw [← hRK]
      refine ⟨(k + 1, false), ⟨rfl, fun j p hj hp => ?_⟩, ?_⟩
      · by_cases hjk : j = k
        · subst hjk; rw [hq] at hp; cases hp; exact h
        · exact hok j p (by omega) hp
      · exact subH_cons (by simp only [push_cast, seval, reduceCtorEq, hb5])
    have hw := wfI_it q.2
    have un : okN k q = (decide (k + 1 ≤ 5000) && (decide (q.1 ≤ 16) && wfI q.2.it)) := rfl
    rw [hw] at un
    by_cases h1 : 5000 < k + 1
    · have c1 : (5000 : Int) < (k : Int) + 1 := by omega
      have hbad : okN k q = false := by rw [un, decide_eq_false (by omega)]; rfl
      simp only [push_cast, seval, reduceCtorEq, hb2, hb3, hb5, c1]
      exact stop _ hbad
    have c1 : ¬ (5000 : Int) < (k : Int) + 1 := by omega
    rw [decide_eq_true (show k + 1 ≤ 5000 by omega), Bool.true_and] at un
    by_cases h2 : 16 < q.1
    · have c2 : (16 : Int) < (q.1 : Int) := by omega
      have hbad : okN k q = false := by rw [un, decide_eq_false (by omega)]; rfl
      simp only [push_cast, seval, reduceCtorEq, hb2, hb3, hb5, c1, c2]
      exact stop _ hbad
    have c2 : ¬ (16 : Int) < (q.1 : Int) := by omega
    rw [decide_eq_true (show q.1 ≤ 16 by omega), Bool.true_and] at un
    cases hl : q.2.list with
    | true =>
      rw [hl, if_pos rfl] at un
      rw [hl] at qc
      by_cases hbs : q.2.bytes = []
      · have e2 : (q.2.bytes == []) = true := by rw [hbs]; rfl
        simp only [push_cast, seval, reduceCtorEq, hb2, hb3, hb5, c1, c2, qc, e1, e2]
        rw [← qc]
        exact next _ (by rw [un, hbs]; rfl)
      · have e2 : (q.2.bytes == []) = false := by simpa using hbs
        simp only [push_cast, seval, reduceCtorEq, hb2, hb3, hb5, c1, c2, qc, e1, e2]
        rw [← qc]
        exact stop _ (by rw [un]; simpa [List.isEmpty_iff] using hbs)
    | false =>
      rw [hl, if_neg (by decide)] at un
      rw [hl] at qc
      by_cases hks : q.2.kids = []
      · have e2 : ¬ 0 < q.2.kids.length := by rw [hks]; decide
        simp only [push_cast, seval, reduceCtorEq, hb2, hb3, hb5, c1, c2, qc, e1, e2]
        rw [← qc]
        exact next _ (by rw [un, hks]; rfl)
      · have e2 : 0 < q.2.kids.length := List.length_pos_iff.2 hks
        simp only [push_cast, seval, reduceCtorEq, hb2, hb3, hb5, c1, c2, qc, e1, e2]
        rw [← qc]
        exact stop _ (by rw [un]; simpa [List.isEmpty_iff] using hks)
  · rintro D s hfD ⟨rfl, hok⟩
    simp only [push_cast, seval, reduceCtorEq] at hfD
    have hl : (allA x 1).length = (allV x 1).length := by unfold allA; rw [List.length_map]
    have hRt : R = true := by rw [hR]; exact right_all fun j p hp => hok j p (by rw [hl]; exact (List.getElem?_eq_some_iff.1 hp).1) hp
    simp only [push_cast, seval, reduceCtorEq, hb2, hb3, hfD, hRt]
  · rintro D cd s hfD ⟨rfl, h1, h2⟩
    simp only [push_cast, seval, reduceCtorEq] at hfD
    obtain ⟨s1, s2⟩ := s
    dsimp only at h1
    subst h1
    simp only [push_cast, seval, reduceCtorEq, hb2, hb3, hfD, h2]
end Go.Proofs.YtpcjmmdgopihcaaGreatDoor
