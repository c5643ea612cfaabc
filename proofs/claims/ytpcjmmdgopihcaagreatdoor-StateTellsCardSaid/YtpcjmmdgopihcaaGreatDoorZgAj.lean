/- Texts of this claim, merged by program: Aj Ak Eq Al EvV Am An. -/
import Derived.Test.YtpcjmmdgopihcaaGreatDoorZgAi
import Derived.Test.YtpcjmmdgopihcaaGreatDoorZgAg
import Derived.Lib.Overlaps
set_option linter.unusedSimpArgs false
set_option linter.unusedVariables false
set_option maxRecDepth 100000
set_option maxHeartbeats 4000000
namespace Go.Ev
def StO (e : Nat) (s : List Ac) (v : Value) (N1 H : Hp) : Prop := ∃ L : List (Ac × Value), L.map (·.1) = s ∧ OutG e 27 (L.flatMap acC) L.length v N1 ∧ ∀ x ∈ L, LiR Sl.cells 8 H x.1.slots x.2
theorem StO.rd (e : Nat) (s : List Ac) : RdOwn (StO e s) := by
 rintro v N1 A B h ⟨L, h1, h2, h3⟩
 exact ⟨L, h1, h2, fun x hx => (h3 x hx).congr h⟩
theorem StO.r {e : Nat} {s : List Ac} {v : Value} {N1 H : Hp} (hf : freshN N1 H) (h : StO e s v N1 H) : StR s v (N1 ++ H) := by
 obtain ⟨L, h1, h2, h3⟩ := h
 exact ⟨L, h1, h2.liR rfl rfl H, fun x hx => (h3 x hx).app hf⟩
theorem subH_ins {A B : Hp} (h : freshN A B) : ∀ (N : Hp), subH (N ++ (A ++ B)) (N ++ B)
 | [] => by
   show subH (A ++ B) B
   induction A with
   | nil => exact subH_self B
   | cons a r ih =>
     rw [List.cons_append, subH_skip h.1]
     exact ih h.2
 | e :: r => ⟨by simp [findE], by simpa [remE] using subH_ins h r⟩
theorem acC_all {x : Ac × Value} (h : oneC x.2 = true) : (acC x).all oneC = true := x.1.all1 _ h
theorem acC_take (x : Ac × Value) : List.take 27 (acC x) = acC x := List.take_of_length_le (Nat.le_of_eq (acC_len x))
theorem acC_drop (x : Ac × Value) : List.drop 27 (acC x) = [] := List.drop_of_length_le (Nat.le_of_eq (acC_len x))
attribute [push_cast] acC_len acC_take acC_drop
theorem StR.open {s : List Ac} {v : Value} {H : Hp} (h : StR s v H) : ∃ (L : List (Ac × Value)) (p : Option Addr) (k : Nat), L.map (·.1) = s ∧ v = .slice p L.length k ∧ (∀ x ∈ L, LiR Sl.cells 8 H x.1.slots x.2) ∧ (L = [] ∨ ∃ b f d kd cs, p = some ⟨b, f + d, none⟩ ∧ findE H b = some ⟨b, f, kd, cs⟩ ∧
  ∀ i x, L[i]? = some x → (∀ q n, q + n ≤ 27 → d + i * 27 + q + n ≤ cs.length ∧ List.take n (List.drop (d + i * 27 + q) cs) = List.take n (List.drop q (acC x))) ∧ d + i * 27 + 27 ≤ cs.length ∧ List.take 27 (List.drop (d + i * 27) cs) = acC x ∧ oneC x.2 = true) := by
 obtain ⟨L, h1, h2, h3⟩ := h
 obtain ⟨p, k, rfl, h0⟩ := h2.open acC_len (by decide)
 refine ⟨L, p, k, h1, rfl, h3, ?_⟩
 rcases h0 with h0 | ⟨b, f, d, kd, cs, rfl, he, hat, -, -⟩
 · exact .inl h0
 · refine .inr ⟨b, f, d, kd, cs, rfl, he, fun i x hx => ⟨hat i x hx, ?_⟩⟩
   have := hat i x hx 0 27 (by decide)
   rw [List.drop_zero, acC_take, Nat.add_zero] at this
   exact ⟨this.1, this.2, (h3 x (List.mem_of_getElem? hx)).one⟩
end Go.Ev
namespace Go.Proofs.YtpcjmmdgopihcaaGreatDoor
open Go Go.Ev Go.Proofs
theorem push_ac {e' s' : Nat} (A : Hp) {B : List (Ac × Value)} {x : Ac} {p : Option Addr} {n0 k0 : Nat} {v : Value} {N X : Hp} {b k : Nat} {K : Value → Hp → Prop} (ho : OutC 31 27 (B.flatMap acC) B.length v N) (hA : freshN (⟨b, 0, .vec e' s' 1, x.cells (Value.slice p n0 k0)⟩ :: A) N) (hn : B.length ≤ 1000000000)
  (hk : ∀ v' N', OutC 31 27 ((B ++ [(x, Value.slice p n0 k0)]).flatMap acC) (B ++ [(x, Value.slice p n0 k0)]).length v' N' → freshN N' (⟨b, 0, .vec e' s' 1, x.cells (Value.slice p n0 k0)⟩ :: (A ++ X)) → K v' (N' ++ ⟨b, 0, .vec e' s' 1, x.cells (Value.slice p n0 k0)⟩ :: (A ++ X))) :
  evAppend Tryz.prog (⟨b, 0, .vec e' s' 1, x.cells (Value.slice p n0 k0)⟩ :: (A ++ (N ++ X))) 22 22 v (.slice (some ⟨b, 0, none⟩) 1 k) K :=
 push_outA A (c := acC) (x := (x, Value.slice p n0 k0)) (by_ := 104) (q := 27) (ag := true) ho hA (by simp only [push_cast, seval, reduceCtorEq]) (by simp only [push_cast, seval, reduceCtorEq]) (acC_len _) (acC_all rfl) (by unfold two47; omega) hk
theorem refOwn_ok {M : Hp} {s : List Ac} {v : Value} (hv : StR s v M) (hn : s.length ≤ 1000000000) (hs : ∀ x ∈ s, x.slots.length ≤ 2199023255551) : CallsW Tryz.prog 49 [v] M (StO 31 s) := by
 intro M0 hr he
 have hm := hr.marks
 replace hv := StR.rd _ _ _ _ he.symm hv
 obtain ⟨L, p, k, rfl, rfl, hsl, hl⟩ := hv.open
 have hlen : (L.map (·.1)).length = L.length := List.length_map _
 rw [hlen] at hn
 refine callsO gA1_ok Tryz.mix Tryz.pl49 Tryz.func49 rfl Tryz.ntmps49 Tryz.results49 rfl (by first | rfl | assumption) (Nat.le_of_ble_eq_true rfl) (by kernel_rfl) ?_
 simp only [push_cast, seval, reduceCtorEq]
 refine loopO gA1_ok (pl := Tryz.pl49) Tryz.mix (X := Nat × List (Ac × Value) × Value × Hp × Hp)
  (fun x => ([(0, .slice p L.length k), (3, x.2.2.1), (4, .int .i64 x.1)], x.2.2.2.1 ++ x.2.2.2.2))
  (fun x => x.1 ≤ L.length ∧ x.2.1.map (·.1) = (L.take x.1).map (·.1) ∧ OutC 31 27 (x.2.1.flatMap acC) x.2.1.length x.2.2.1 x.2.2.2.1 ∧ Gr M0 x.2.2.2.2 ∧ freshN x.2.2.2.1 x.2.2.2.2 ∧ ∀ y ∈ x.2.1, LiR Sl.cells 8 x.2.2.2.2 y.1.slots y.2)
  (fun x => L.length - x.1) (0, [], .slice none 0 0, [], M0) ?_ ?_ (by kernel_rfl) ?_
 · exact ⟨Nat.zero_le _, rfl, OutC.nil _ _, Gr.refl hm, trivial, fun y hy => by cases hy⟩
 · simp only [push_cast, seval, reduceCtorEq]
 · rintro ⟨i, B, u, N, M1⟩ ⟨hi, hB, ho, hg, hf, hsB⟩
   dsimp only at hi hB ho hg hf hsB ⊢
   have hBl : B.length = i := by have := congrArg List.length hB; simpa [Nat.min_eq_left hi] using this
   rcases Nat.lt_or_ge i L.length with hlt | hge
   · obtain h0 | ⟨b, f, d, kd, cs, rfl, hfe, hat⟩ := hl
     · rw [h0] at hlt; exact absurd hlt (Nat.not_lt_zero _)
     obtain ⟨x, hx⟩ : ∃ x, L[i]? = some x := ⟨L[i], List.getElem?_eq_getElem hlt⟩
     obtain ⟨-, a1, a2, a3⟩ := hat i x hx
     have hfe1 : findE (N ++ M1) b = some ⟨b, f, kd, cs⟩ := by
      have := hg.find hfe
      rw [findE_freshN hf this]; exact this
     have i1 : (i : Int) < (L.length : Int) := by omega
     have al1 := acC_all a3
     simp only [push_cast, seval, reduceCtorEq, i1, hlt, hfe1, a1, a2]
     have hxm := List.mem_of_getElem? hx
     refine useL N (refown_ok ((hsl x hxm).ext hg.ext) (hs _ (List.mem_map_of_mem hxm))) (AcR.rd _) hg.marks hf fun w M2 hg2 hf2 hq => ?_
     obtain ⟨sv, rfl, hsv⟩ := hq
     obtain ⟨ps, ks, rfl⟩ := hsv.slice
     simp only [push_cast, seval, reduceCtorEq]
     intro b5 hb5
     refine push_ac [] ho ⟨(fresh_app_iff.1 hb5).1, trivial⟩ (by omega) fun u' N' ho' hf' => ?_
     simp only [push_cast, seval, reduceCtorEq, wrap_i64' (show -9223372036854775808 ≤ (i : Int) + 1 ∧ (i : Int) + 1 ≤ 9223372036854775807 by omega)]
     have hf5 : fresh b5 M2 := (fresh_app_iff.1 hb5).2
     refine ⟨(i + 1, B ++ [(x.1, Value.slice ps x.1.slots.length ks)], u', N', M2), ⟨hlt, ?_, ho', hg.trans hg2, freshN_cons hf', ?_⟩, by dsimp only; omega, ?_⟩
     · rw [List.map_append, hB, List.take_add_one, hx, List.map_append]; rfl
     · intro y hy
       rcases List.mem_append.1 hy with hy | hy
       · exact (hsB y hy).ext hg2.ext
       · rw [List.mem_singleton.1 hy]; exact hsv
     · simp only [push_cast, seval, reduceCtorEq]
       exact ⟨subH_ins (A := [_]) ⟨hf5, trivial⟩ N', by simp [marks_append, marksOf]⟩
   · obtain rfl : i = L.length := by omega
     simp only [push_cast, seval, reduceCtorEq, Nat.lt_irrefl, Int.lt_irrefl]
     exact doneN [] hg ho.wr.1 ho.wr.2 hf (StO.rd _ _) ⟨B, hB.trans (by rw [List.take_length]), ho.g, hsB⟩
theorem mapped_ok {M : Hp} {s : List Ac} {v : Value} (hv : StR s v M) (hn : s.length ≤ 1000000000) (hs : ∀ x ∈ s, x.slots.length ≤ 2199023255551) : CallsW Tryz.prog 43 [v, .func (.func 41) #[] #[]] M (StO 31 s) := by
 intro M0 hr he
 have hm := hr.marks
 replace hv := StR.rd _ _ _ _ he.symm hv
 obtain ⟨L, p, k, rfl, rfl, hsl, hl⟩ := hv.open
 have hlen : (L.map (·.1)).length = L.length := List.length_map _
 rw [hlen] at hn
 refine callsO gA1_ok Tryz.mix Tryz.pl43 Tryz.func43 rfl Tryz.ntmps43 Tryz.results43 rfl (by first | rfl | assumption) (Nat.le_of_ble_eq_true rfl) (by kernel_rfl) ?_
 simp only [push_cast, seval, reduceCtorEq]
 refine loopO gA1_ok (pl := Tryz.pl43) Tryz.mix (X := Nat × List (Ac × Value) × Value × Hp × Hp)
  (fun x => ([(1, .func (.func 41) #[] #[]), (5, x.2.2.1), (8, .slice p L.length k), (9, .int .i64 L.length), (10, .int .i64 x.1)], x.2.2.2.1 ++ x.2.2.2.2))
  (fun x => x.1 ≤ L.length ∧ x.2.1.map (·.1) = (L.take x.1).map (·.1) ∧ OutC 31 27 (x.2.1.flatMap acC) x.2.1.length x.2.2.1 x.2.2.2.1 ∧ Gr M0 x.2.2.2.2 ∧ freshN x.2.2.2.1 x.2.2.2.2 ∧ ∀ y ∈ x.2.1, LiR Sl.cells 8 x.2.2.2.2 y.1.slots y.2)
  (fun x => L.length - x.1) (0, [], .slice none 0 0, [], M0) ?_ ?_ (by kernel_rfl) ?_
 · exact ⟨Nat.zero_le _, rfl, OutC.nil _ _, Gr.refl hm, trivial, fun y hy => by cases hy⟩
 · simp only [push_cast, seval, reduceCtorEq]
 · rintro ⟨i, B, u, N, M1⟩ ⟨hi, hB, ho, hg, hf, hsB⟩
   dsimp only at hi hB ho hg hf hsB ⊢
   have hBl : B.length = i := by have := congrArg List.length hB; simpa [Nat.min_eq_left hi] using this
   rcases Nat.lt_or_ge i L.length with hlt | hge
   · obtain h0 | ⟨b, f, d, kd, cs, rfl, hfe, hat⟩ := hl
     · rw [h0] at hlt; exact absurd hlt (Nat.not_lt_zero _)
     obtain ⟨x, hx⟩ : ∃ x, L[i]? = some x := ⟨L[i], List.getElem?_eq_getElem hlt⟩
     obtain ⟨-, a1, a2, a3⟩ := hat i x hx
     have hfe1 : findE (N ++ M1) b = some ⟨b, f, kd, cs⟩ := by
      have := hg.find hfe
      rw [findE_freshN hf this]; exact this
     have i1 : (i : Int) < (L.length : Int) := by omega
     have al1 := acC_all a3
     simp only [push_cast, seval, reduceCtorEq, i1, hlt, hfe1, a1, a2, al1]
     intro b4 hb4
     have hb4' := fresh_app_iff.1 hb4
     have hxm := List.mem_of_getElem? hx
     refine useL (⟨b4, 0, .cel 31, acC x⟩ :: N) (sown_ok ((hsl x hxm).ext hg.ext) (hs _ (List.mem_map_of_mem hxm))) (AcR.rd _) hg.marks ⟨hb4'.2, hf⟩ fun w M2 hg2 hf2 hq => ?_
     obtain ⟨sv, rfl, hsv⟩ := hq
     obtain ⟨ps, ks, rfl⟩ := hsv.slice
     simp only [push_cast, seval, reduceCtorEq]
     intro b5 hb5q; have hb5 := hb5q.2.2
     have hb5' := fresh_app_iff.1 hb5
     refine push_ac [⟨b4, 0, .cel 31, acC x⟩] ho ⟨hb5'.1, hb4'.1, trivial⟩ (by omega) fun u' N' ho' hf' => ?_
     simp only [push_cast, seval, reduceCtorEq, wrap_i64' (show -9223372036854775808 ≤ (i : Int) + 1 ∧ (i : Int) + 1 ≤ 9223372036854775807 by omega)]
     refine ⟨(i + 1, B ++ [(x.1, Value.slice ps x.1.slots.length ks)], u', N', M2), ⟨hlt, ?_, ho', hg.trans hg2, freshN_cons (freshN_cons hf'), ?_⟩, by dsimp only; omega, ?_⟩
     · rw [List.map_append, hB, List.take_add_one, hx, List.map_append]; rfl
     · intro y hy
       rcases List.mem_append.1 hy with hy | hy
       · exact (hsB y hy).ext hg2.ext
       · rw [List.mem_singleton.1 hy]; exact hsv
     · simp only [push_cast, seval, reduceCtorEq]
       exact ⟨subH_ins (A := [_, _]) ⟨hb5'.2, hf2.1, trivial⟩ N', by simp [marks_append, marksOf]⟩
   · obtain rfl : i = L.length := by omega
     simp only [push_cast, seval, reduceCtorEq, Nat.lt_irrefl, Int.lt_irrefl]
     exact doneN [] hg ho.wr.1 ho.wr.2 hf (StO.rd _ _) ⟨B, hB.trans (by rw [List.take_length]), ho.g, hsB⟩
end Go.Proofs.YtpcjmmdgopihcaaGreatDoor
namespace Go.Ev
end Go.Ev
namespace Go.Proofs.YtpcjmmdgopihcaaGreatDoor
open Go Go.Ev Go.Proofs
end Go.Proofs.YtpcjmmdgopihcaaGreatDoor
namespace Go.Ev
theorem eqC_bytes : ∀ (a b : List UInt8), a.length = b.length → eqC (List.replicate a.length .i) (byteV a) (byteV b) = some (a == b)
 | [], [], _ => rfl
 | [], _ :: _, h => by cases h
 | _ :: _, [], h => by cases h
 | x :: r, y :: t, h => by
   have ih := eqC_bytes r t (by simpa using h)
   simp only [byteV, List.map_cons, List.length_cons, List.replicate_succ, eqC, if_true]
   simp only [byteV] at ih
   rw [ih]
   simp only [Option.map_some, Option.some.injEq]
   rw [List.cons_beq_cons]
   congr 1
   by_cases hxy : x = y
   · rw [hxy, beq_self_eq_true, beq_self_eq_true]
   · rw [beq_eq_false_iff_ne.2 hxy, beq_eq_false_iff_ne.2 (fun h => hxy (UInt8.toNat_inj.1 (by omega)))]
theorem eqC_cat : ∀ {k1 k2 : List CK} {x1 x2 y1 y2 : List Value} {r1 r2 : Bool}, eqC k1 x1 y1 = some r1 → eqC k2 x2 y2 = some r2 → eqC (k1 ++ k2) (x1 ++ x2) (y1 ++ y2) = some (r1 && r2)
 | [], k2, [], x2, [], y2, r1, r2, h1, h2 => by
   simp only [eqC, Option.some.injEq] at h1
   subst h1
   simpa using h2
 | [], _, _ :: _, _, _, _, _, _, h, _ => by simp [eqC] at h
 | [], _, [], _, _ :: _, _, _, _, h, _ => by simp [eqC] at h
 | k :: ks, _, [], _, _, _, _, _, h, _ => by cases k <;> simp [eqC] at h
 | k :: ks, _, x :: xs, _, [], _, _, _, h, _ => by cases k <;> cases x <;> simp [eqC] at h
 | k :: ks, k2, x :: xs, x2, y :: ys, y2, r1, r2, h1, h2 => by
   cases k <;> cases x <;> cases y <;> simp only [eqC, reduceCtorEq] at h1
   case b.bool.bool a b =>
    cases hh : eqC ks xs ys with
    | none => simp [hh] at h1
    | some r =>
      simp only [hh, Option.map_some, Option.some.injEq] at h1
      rw [List.cons_append, List.cons_append, List.cons_append, eqC, eqC_cat hh h2, ← h1]
      simp [Bool.and_assoc]
   case i.int.int k a k' b =>
    split at h1
    · rename_i hk
      cases hh : eqC ks xs ys with
      | none => simp [hh] at h1
      | some r =>
        simp only [hh, Option.map_some, Option.some.injEq] at h1
        rw [List.cons_append, List.cons_append, List.cons_append, eqC, if_pos hk, eqC_cat hh h2, ← h1]
        simp [Bool.and_assoc]
    · cases h1
   case s.string.string a b =>
    cases hh : eqC ks xs ys with
    | none => simp [hh] at h1
    | some r =>
      simp only [hh, Option.map_some, Option.some.injEq] at h1
      rw [List.cons_append, List.cons_append, List.cons_append, eqC, eqC_cat hh h2, ← h1]
      simp [Bool.and_assoc]
def idxF {α : Type} (f : α → Bool) (l : List α) : Int := match l.findIdx? f with | some i => i | none => -1
theorem idxF_some {α : Type} {f : α → Bool} {l : List α} {i : Nat} {x : α} (hx : l[i]? = some x) (h1 : f x = true) (h0 : ∀ (j : Nat) (y : α), j < i → l[j]? = some y → f y = false) : idxF f l = i := by
 obtain ⟨hi1, hi2⟩ := (List.getElem?_eq_some_iff.1 hx)
 have : l.findIdx? f = some i := by
  rw [List.findIdx?_eq_some_iff_getElem]
  refine ⟨hi1, by rw [hi2]; exact h1, fun j hj => ?_⟩
  have := h0 j (l[j]'(by omega)) hj (List.getElem?_eq_getElem (by omega))
  simp [this]
 unfold idxF; rw [this]
theorem idxF_none {α : Type} {f : α → Bool} {l : List α} (h0 : ∀ (j : Nat) (y : α), l[j]? = some y → f y = false) : idxF f l = -1 := by
 have : l.findIdx? f = none := by
  rw [List.findIdx?_eq_none_iff]
  intro x hx
  obtain ⟨j, hj⟩ := List.getElem?_of_mem hx
  exact h0 j x hj
 unfold idxF; rw [this]
theorem idxF_find {α : Type} (f : α → Bool) (l : List α) : (idxF f l = -1 ∧ l.find? f = none) ∨ ∃ (i : Nat) (x : α), idxF f l = i ∧ l[i]? = some x ∧ l.find? f = some x := by
 unfold idxF
 cases h : l.findIdx? f with
 | none =>
   refine .inl ⟨rfl, ?_⟩
   have := List.findIdx?_eq_none_iff.1 h
   simpa using this
 | some i =>
   obtain ⟨h1, h2, h3⟩ := List.findIdx?_eq_some_iff_getElem.1 h
   refine .inr ⟨i, l[i], rfl, List.getElem?_eq_getElem h1, ?_⟩
   rw [List.find?_eq_some_iff_getElem]
   exact ⟨h2, i, h1, rfl, fun j hj => by have := h3 j hj; simpa using this⟩
end Go.Ev
namespace Go.Ev
theorem Ad.eqC (x y : Ad) : eqC (List.replicate 20 .i) x.cells y.cells = some (decide (x = y)) := by
 have h1 := eqC_bytes x.l y.l (by rw [x.hl, y.hl])
 rw [x.hl] at h1
 unfold Ad.cells
 rw [h1]
 congr 1
 by_cases h : x = y
 · subst h; simp
 · rw [decide_eq_false h, beq_eq_false_iff_ne]
   exact fun h2 => h (Ad.ext h2)
theorem Ad.eqV {P : Program} {t : TypeId} (x y : Ad) (h1 : tyI P t = some (20, true)) (h2 : P.eqGuardType P.depth t = false) (h3 : flatK P 12 t = some (List.replicate 20 .i)) : eqV P t x.v y.v = some (decide (x = y)) := by
 unfold Ev.eqV Ad.v
 simp only [h1, h2, h3, Bool.false_eq_true, if_false, Option.bind_some]
 exact Ad.eqC x y
theorem Ad.eql {P : Program} {t : TypeId} (x y : Ad) (h1 : tyI P t = some (20, true)) (h2 : P.eqGuardType P.depth t = false) (h3 : flatK P 12 t = some (List.replicate 20 .i)) : binQ P .eql t x.v y.v = some (.bool (decide (x = y))) := by
 show (Ev.eqV P t x.v y.v).map Value.bool = _
 rw [Ad.eqV x y h1 h2 h3]; rfl
theorem Ad.neq {P : Program} {t : TypeId} (x y : Ad) (h1 : tyI P t = some (20, true)) (h2 : P.eqGuardType P.depth t = false) (h3 : flatK P 12 t = some (List.replicate 20 .i)) : binQ P .neq t x.v y.v = some (.bool (!decide (x = y))) := by
 show (Ev.eqV P t x.v y.v).map (fun r => Value.bool !r) = _
 rw [Ad.eqV x y h1 h2 h3]; rfl
theorem Ad.take20 (x : Ad) : List.take 20 x.cells = x.cells := List.take_of_length_le (Nat.le_of_eq x.len)
theorem Ad.drop20 (x : Ad) : List.drop 20 x.cells = [] := List.drop_of_length_le (Nat.le_of_eq x.len)
attribute [push_cast] Ad.take20 Ad.drop20
theorem cell_open {H : Hp} {b n : Nat} {cs : List Value} (h : cellsAt H b 0 n = some cs) : ∃ kd c', findE H b = some ⟨b, 0, kd, c'⟩ ∧ n ≤ c'.length ∧ List.take n c' = cs := by
 obtain ⟨⟨b', f, kd, c'⟩, he⟩ := cellsAt_findS h
 obtain rfl : b' = b := (findE_mem he).2
 unfold cellsAt at h
 rw [he] at h
 dsimp only at h
 split at h
 case isFalse => cases h
 rename_i hle
 obtain rfl : f = 0 := Nat.le_zero.1 hle
 unfold subL at h
 split at h
 case isFalse => cases h
 rename_i hlen
 refine ⟨kd, c', he, by omega, ?_⟩
 simpa using h
theorem LiR.openA {L : List (Ac × Value)} {H : Hp} {v : Value} (h : LiR acC 27 H L v) : ∃ p k, v = .slice p L.length k ∧ (L = [] ∨ ∃ b f d kd cs, p = some ⟨b, f + d, none⟩ ∧ findE H b = some ⟨b, f, kd, cs⟩ ∧
  ∀ i x, L[i]? = some x → (∀ q n, q + n ≤ 27 → d + i * 27 + q + n ≤ cs.length ∧ List.take n (List.drop (d + i * 27 + q) cs) = List.take n (List.drop q (acC x))) ∧ d + i * 27 + 27 ≤ cs.length ∧ List.take 27 (List.drop (d + i * 27) cs) = acC x) := by
 obtain ⟨p, k, rfl, h0⟩ := h.open acC_len (by decide)
 refine ⟨p, k, rfl, ?_⟩
 rcases h0 with h0 | ⟨b, f, d, kd, cs, rfl, he, hat, -, -⟩
 · exact .inl h0
 · refine .inr ⟨b, f, d, kd, cs, rfl, he, fun i x hx => ⟨hat i x hx, ?_⟩⟩
   have := hat i x hx 0 27 (by decide)
   rw [List.drop_zero, acC_take, Nat.add_zero] at this
   exact this
def emptyAt (a : Ad) : Ac := ⟨a, W.zero, 0, .empty, []⟩
def findS (s : List Ac) (a : Ad) : Ac := (s.find? fun x => decide (x.at_ = a)).getD (emptyAt a)
theorem emptyAt_cells (a : Ad) : a.cells ++ [.int .u64 0, .int .u64 0, .int .u64 0, .int .u64 0, .int .i64 0, .string .empty, .slice none 0 0] = (emptyAt a).cells (.slice none 0 0) := rfl
theorem findA_map {α : Type} (g : α → Ac) (p : Ac → Bool) (l : List α) : (l.map g).find? p = (l.find? fun x => p (g x)).map g := by
 induction l with
 | nil => rfl
 | cons x r ih => rw [List.map_cons, List.find?_cons, List.find?_cons]; cases p (g x) <;> simp [ih]
end Go.Ev
namespace Go.Proofs.YtpcjmmdgopihcaaGreatDoor
open Go Go.Ev Go.Proofs
theorem ad_ty : tyI Tryz.prog 25 = some (20, true) := by kernel_rfl
theorem ad_eg : Program.eqGuardType Tryz.prog (Program.depth Tryz.prog) 25 = false := by kernel_rfl
theorem ad_fl : flatK Tryz.prog 12 25 = some (List.replicate 20 .i) := by kernel_rfl
theorem ad_eql (x y : Ad) : binQ Tryz.prog .eql 25 x.v y.v = some (.bool (decide (x = y))) := Ad.eql x y ad_ty ad_eg ad_fl
theorem ad_neq (x y : Ad) : binQ Tryz.prog .neq 25 x.v y.v = some (.bool (!decide (x = y))) := Ad.neq x y ad_ty ad_eg ad_fl
attribute [push_cast high] ad_eql ad_neq
theorem indexA_ok {H : Hp} {L : List (Ac × Value)} {v : Value} {g : FuncId} {caps : List Value} {f : Ac × Value → Bool} (hr : roM H) (hn : L.length ≤ 2199023255551) (hl : LiR acC 27 H L v)
  (hf : ∀ x ∈ L, CallsV Tryz.prog g (.agg (acC x).toArray :: caps) H (Ret0 (.bool (f x)))) :
  CallsV Tryz.prog 39 [v, .func (.func g) #[] caps.toArray] H (Ret0 (.int .i64 (idxF f L))) := by
 have hm := hr.marks
 obtain ⟨p, k, rfl, hla⟩ := hl.openA
 refine callsO (noG_ok _) Tryz.mix Tryz.pl39 Tryz.func39 rfl Tryz.ntmps39 Tryz.results39 rfl (by first | rfl | assumption) (Nat.le_of_ble_eq_true rfl) (by kernel_rfl) ?_
 simp only [push_cast, seval, reduceCtorEq]
 refine loopO (noG_ok _) (pl := Tryz.pl39) Tryz.mix (X := Nat)
  (fun i => ([(0, .slice p L.length k), (1, .func (.func g) #[] caps.toArray), (7, .int .i64 L.length), (8, .int .i64 i)], H))
  (fun i => i ≤ L.length ∧ ∀ j y, j < i → L[j]? = some y → f y = false) (fun i => L.length - i) 0 ?_ ?_ (by kernel_rfl) ?_
 · exact ⟨Nat.zero_le _, fun i x h => by omega⟩
 · simp only [push_cast, seval, reduceCtorEq, hm]
 · rintro i ⟨hi, ho⟩
   dsimp only at hi ho ⊢
   rcases Nat.lt_or_ge i L.length with hlt | hge
   · obtain ⟨x, hx⟩ : ∃ x, L[i]? = some x := ⟨L[i], List.getElem?_eq_getElem hlt⟩
     rcases hla with rfl | ⟨b, f', d, kd, cs, rfl, hfe, hat⟩
     · simp at hlt
     obtain ⟨-, a1, a2⟩ := hat i x hx
     have hfx := hf x (List.mem_of_getElem? hx)
     have i1 : (i : Int) < (L.length : Int) := by omega
     simp only [push_cast, seval, reduceCtorEq, i1, hlt, hfe, a1, a2]
     refine hfx.pure hr.der ?_
     simp only [push_cast, seval, reduceCtorEq, wrap_i64' (show -9223372036854775808 ≤ (i : Int) + 1 ∧ (i : Int) + 1 ≤ 9223372036854775807 by omega)]
     simp only [sel_ite, decide_eq_true_eq, bne_iff_ne, ne_eq, beq_iff_eq]
     split
     · rename_i h
       rw [idxF_some hx h ho]
     · rename_i h
       refine ⟨i + 1, ⟨hlt, fun j y hj hy => ?_⟩, by omega, rfl⟩
       rcases Nat.lt_or_ge j i with h5 | h5
       · exact ho j y h5 hy
       · obtain rfl : j = i := by omega
         rw [hx] at hy; cases hy
         simpa using h
   · obtain rfl : i = L.length := by omega
     simp only [push_cast, seval, reduceCtorEq, Nat.lt_irrefl, Int.lt_irrefl, idxF_none (fun j y hj => ho j y (List.getElem?_eq_some_iff.1 hj).1 hj)]
theorem find1_ok {H : Hp} {x : Ac × Value} {a : Ad} {b : Nat} (hr : roM H) (hb : cellsAt H b 0 20 = some a.cells) (hx : oneC x.2 = true) : CallsV Tryz.prog 40 [.agg (acC x).toArray, .pointer (some ⟨b, 0, none⟩)] H (Ret0 (.bool (decide (x.1.at_ = a)))) := by
 have hm := hr.marks
 obtain ⟨kd, c', he, h1, h2⟩ := cell_open hb
 have h3 : List.take 20 (acC x) = x.1.at_.cells := x.1.at0 x.2
 refine callsO gA1_ok Tryz.mix Tryz.pl40 Tryz.func40 rfl Tryz.ntmps40 Tryz.results40 rfl (by first | rfl | assumption) (Nat.le_of_ble_eq_true rfl) (by kernel_rfl) ?_
 simp only [push_cast, seval, reduceCtorEq]
 intro b1 hb1
 have hne := (fresh_findS hb1 he).2
 simp only [push_cast, seval, reduceCtorEq, hb1, he, hne, h1, h2, h3]
theorem sfind_ok {M : Hp} {s : List Ac} {v : Value} {a : Ad} (hv : StR s v M) (hn : s.length ≤ 1000000000) (hs : ∀ x ∈ s, x.slots.length ≤ 2199023255551) : CallsR Tryz.prog 20 [v, a.v] M (AcR (findS s a)) := by
 intro M0 hr he
 have hm := hr.marks
 replace hv := StR.rd _ _ _ _ he.symm hv
 obtain ⟨L, rfl, hl, hsl⟩ := hv
 have hlen : (L.map (·.1)).length = L.length := List.length_map _
 rw [hlen] at hn
 obtain ⟨p, k, rfl, hla⟩ := hl.openA
 refine callsO gA1_ok Tryz.mix (fun i => if i = 1 then [(0, 9)] else Tryz.pl20 i) Tryz.func20 rfl Tryz.ntmps20 Tryz.results20 rfl (by first | rfl | assumption) (Nat.le_of_ble_eq_true rfl) (by kernel_rfl) ?_
 simp only [push_cast, seval, reduceCtorEq]
 intro b3 hb3 b4 hb4
 have hL3 : freshN [⟨b3, 0, .cel 25, a.cells⟩] M0 := ⟨hb3, trivial⟩
 refine regO gA1_ok ?_
 simp only [push_cast, seval, reduceCtorEq, hb4]
 refine useP [_] (M := ⟨b3, 0, .cel 25, a.cells⟩ :: M0) (v := .int .i64 (idxF (fun x => decide (x.1.at_ = a)) L)) (fun M1 hr1 he1 => indexA_ok (caps := [_]) hr1 (by omega) ((hl.app hL3).congr he1.symm) fun x hx => find1_ok hr1 ?_ (hsl x hx).one) ⟨⟨hb4.1, hb4.2⟩, trivial⟩ ?_
 · rw [he1]
   simp only [push_cast, seval, reduceCtorEq]
 simp only [push_cast, seval, reduceCtorEq, hb4]
 rcases idxF_find (fun x : Ac × Value => decide (x.1.at_ = a)) L with ⟨h0, h1⟩ | ⟨i, x, h0, h1, h2⟩
 · have e : findS (L.map (·.1)) a = emptyAt a := by unfold findS; rw [findA_map, h1]; rfl
   rw [e]
   simp only [push_cast, seval, reduceCtorEq, h0, hb4, emptyAt_cells]
   exact doneK2 [_, _] (Gr.refl hm) (AcR.rd _) ⟨_, rfl, LiR.nil _ _⟩
 · have e : findS (L.map (·.1)) a = x.1 := by unfold findS; rw [findA_map, h2]; rfl
   rw [e]
   have hxm := List.mem_of_getElem? h1
   rcases hla with rfl | ⟨b, f', d, kd, cs, rfl, hfe, hat⟩
   · simp at h1
   obtain ⟨-, a1, a2⟩ := hat i x h1
   have i0 : ¬ (i : Int) < 0 := by omega
   have hi := (List.getElem?_eq_some_iff.1 h1).1
   have n3 := (fresh_findS hb3 hfe).2
   have n4 := (fresh_findS hb4.2.2 hfe).2
   simp only [push_cast, seval, reduceCtorEq, h0, i0, hi, hfe, a1, a2, n3, n4]
   refine useL [_, _] (sown_ok (hsl x hxm) (hs _ (List.mem_map_of_mem hxm))) (AcR.rd _) hm ⟨hb4.2.2, hb3, trivial⟩ fun w M2 hg2 hf2 hq => ?_
   obtain ⟨sv, rfl, hsv⟩ := hq
   obtain ⟨ps, ks, rfl⟩ := hsv.slice
   simp only [push_cast, seval, reduceCtorEq, hb4]
   exact doneK2 [_, _] hg2 (AcR.rd _) ⟨_, rfl, hsv⟩
theorem refFind_ok {M : Hp} {s : List Ac} {v : Value} {a : Ad} (hv : StR s v M) (hn : s.length ≤ 1000000000) (hs : ∀ x ∈ s, x.slots.length ≤ 2199023255551) : CallsR Tryz.prog 21 [v, a.v] M (AcR (findS s a)) := by
 intro M0 hr he
 have hm := hr.marks
 replace hv := StR.rd _ _ _ _ he.symm hv
 obtain ⟨L, rfl, hl, hsl⟩ := hv
 have hlen : (L.map (·.1)).length = L.length := List.length_map _
 rw [hlen] at hn
 obtain ⟨p, k, rfl, hla⟩ := hl.openA
 refine callsO gA1_ok Tryz.mix Tryz.pl21 Tryz.func21 rfl Tryz.ntmps21 Tryz.results21 rfl (by first | rfl | assumption) (Nat.le_of_ble_eq_true rfl) (by kernel_rfl) ?_
 simp only [push_cast, seval, reduceCtorEq]
 intro b3 hb3 b4 hb4
 refine loopO gA1_ok (pl := Tryz.pl21) Tryz.mix (X := Nat)
  (fun i => ([(0, .slice p L.length k), (3, .pointer (some ⟨b3, 0, none⟩)), (4, .pointer (some ⟨b4, 0, none⟩)), (5, .int .i64 i)], ⟨b4, 0, .cel 31, Ac.zeroC⟩ :: ⟨b3, 0, .cel 25, a.cells⟩ :: M0))
  (fun i => i ≤ L.length ∧ ∀ j y, j < i → L[j]? = some y → ¬ y.1.at_ = a) (fun i => L.length - i) 0 ?_ ?_ (by kernel_rfl) ?_
 · exact ⟨Nat.zero_le _, fun i x h => by omega⟩
 · simp only [push_cast, seval, reduceCtorEq, hb4, Ac.zeroC]
 · rintro i ⟨hi, ho⟩
   dsimp only at hi ho ⊢
   rcases Nat.lt_or_ge i L.length with hlt | hge
   · obtain ⟨x, hx⟩ : ∃ x, L[i]? = some x := ⟨L[i], List.getElem?_eq_getElem hlt⟩
     rcases hla with rfl | ⟨b, f', d, kd, cs, rfl, hfe, hat⟩
     · simp at hlt
     obtain ⟨a0, a1, a2⟩ := hat i x hx
     obtain ⟨a3, a4⟩ := a0 0 20 (by decide)
     rw [Nat.add_zero] at a3 a4
     rw [List.drop_zero, show List.take 20 (acC x) = x.1.at_.cells from x.1.at0 x.2] at a4
     have hxm := List.mem_of_getElem? hx
     have i1 : (i : Int) < (L.length : Int) := by omega
     have n3 := (fresh_findS hb3 hfe).2
     have n4 := (fresh_findS hb4.2.2 hfe).2
     by_cases hxa : x.1.at_ = a
     · have e : findS (L.map (·.1)) a = x.1 := by
        unfold findS
        have : (L.map (·.1)).find? (fun y => decide (y.at_ = a)) = some x.1 := by
         rw [List.find?_eq_some_iff_getElem]
         refine ⟨by simp [hxa], i, by rw [hlen]; exact hlt, by rw [List.getElem_map, (List.getElem?_eq_some_iff.1 hx).2], fun j hj => ?_⟩
         rw [List.getElem_map]
         have := ho j L[j] hj (List.getElem?_eq_getElem (by omega))
         simp [this]
        rw [this]; rfl
       rw [e]
       simp only [push_cast, seval, reduceCtorEq, i1, hlt, hfe, a3, a4, n3, n4, hb4, hxa, decide_true, a1, a2]
       refine useL [⟨b4, 0, .cel 31, Ac.zeroC⟩, ⟨b3, 0, .cel 25, a.cells⟩] (refown_ok (hsl x hxm) (hs _ (List.mem_map_of_mem hxm))) (AcR.rd _) hm ⟨hb4.2.2, hb3, trivial⟩ fun w M2 hg2 hf2 hq => ?_
       obtain ⟨sv, rfl, hsv⟩ := hq
       obtain ⟨ps, ks, rfl⟩ := hsv.slice
       simp only [push_cast, seval, reduceCtorEq, hb4, Ac.zeroC]
       exact doneK2 [_, _] hg2 (AcR.rd _) ⟨_, rfl, hsv⟩
     · simp only [push_cast, seval, reduceCtorEq, i1, hlt, hfe, a3, a4, n3, n4, hb4, hxa, decide_false, wrap_i64' (show -9223372036854775808 ≤ (i : Int) + 1 ∧ (i : Int) + 1 ≤ 9223372036854775807 by omega)]
       refine ⟨i + 1, ⟨hlt, fun j y hj hy => ?_⟩, by omega, rfl⟩
       rcases Nat.lt_or_ge j i with h5 | h5
       · exact ho j y h5 hy
       · obtain rfl : j = i := by omega
         rw [hx] at hy; cases hy
         exact hxa
   · obtain rfl : i = L.length := by omega
     have e : findS (L.map (·.1)) a = emptyAt a := by
      unfold findS
      have : (L.map (·.1)).find? (fun y => decide (y.at_ = a)) = none := by
       rw [List.find?_eq_none]
       intro y hy
       obtain ⟨z, hz, rfl⟩ := List.mem_map.1 hy
       obtain ⟨j, hj⟩ := List.getElem?_of_mem hz
       have := ho j z (List.getElem?_eq_some_iff.1 hj).1 hj
       simp [this]
      rw [this]; rfl
     rw [e]
     simp only [push_cast, seval, reduceCtorEq, Nat.lt_irrefl, Int.lt_irrefl, hb4, Ac.zeroC, emptyAt_cells]
     exact doneK2 [_, _] (Gr.refl hm) (AcR.rd _) ⟨_, rfl, LiR.nil _ _⟩
end Go.Proofs.YtpcjmmdgopihcaaGreatDoor
namespace Go.Ev
open Go.RowKit
theorem CallsV.useMs {P : Program} {g : FuncId} {args : List Value} {Hw Hf Hr : Hp} {K K' : Value → Hp → Prop} (hc : CallsV P g args (Hw ++ Hf) K) (hw : ∀ e ∈ Hw, e.kind.solid = true) (hd : derE Hr Hf)
  (hk : ∀ v N, K v N → allWr N ∧ marksOf N = [] ∧ (freshN N Hr → K' v (N ++ Hr))) : CallsV P g args (Hw ++ Hr) K' := by
 refine ⟨hc.1, fun w0 mu w hs => ?_⟩
 have hmw : ∀ e ∈ Hw, e.wr := fun e he => by have := hw e he; unfold Ent.wr; cases hk : e.kind <;> simp [Kind.solid, hk] at this ⊢
 have hmo : ∀ e ∈ Hw, ∀ o, e.kind ≠ .obj o := by intro e he o ho; have := hw e he; rw [ho] at this; simp [Kind.solid] at this
 have hs1 : Sat w0 mu Hr w := hs.weak (List.sublist_append_right Hw Hr)
 have hs2 : Sat w0 mu Hw w := hs.weak (List.sublist_append_left Hw Hr)
 have hap := List.pairwise_append.1 hs.apart
 have hder := derE_mem hd
 have hro : ∀ e ∈ Hf, ¬ e.wr := fun e he hw => by unfold Ent.wr at hw; rw [(hder e he).1] at hw; exact hw
 have hblk : ∀ e ∈ Hf, (∀ m ∈ Hw, m.blk ≠ e.blk) ∧ e.blk < w.heap.size := fun e he => by
  have h2 := (hder e he).2
  unfold cellsAt at h2
  split at h2
  · rename_i e' he'
    obtain ⟨hm', hb⟩ := findE_mem he'
    rw [← hb]; exact ⟨fun m hm => hap.2.2 m hm e' hm' (.inl (hmw m hm)), Ent.lt (hs1.ents e' hm')⟩
  · cases h2
 have mks : ∀ L : Hp, (∀ e ∈ L, ∀ o, e.kind ≠ .obj o) → marksOf L = [] := by
  intro L
  induction L with
  | nil => intro _; rfl
  | cons x r ih =>
    intro h
    simp only [marksOf]
    split
    · rename_i hk; exact absurd hk (h x (by simp) _)
    · exact ih fun e he => h e (by simp [he])
 have hmf : marksOf (Hw ++ Hf) = [] := by
  rw [marks_append, mks Hw hmo, mks Hf fun e he o ho => by rw [(hder e he).1] at ho; cases ho]; rfl
 have hsf : Sat w (fun b => ∃ m ∈ Hw, m.blk = b) (Hw ++ Hf) w := by
  refine ⟨rfl, rfl, rfl, Nat.le_refl _, fun _ _ _ => rfl, ?_, ?_, List.pairwise_append.2 ⟨hap.1, ?_, fun m hm e he _ => (hblk e he).1 m hm⟩⟩
  · intro e he
    rcases List.mem_append.1 he with he | he
    · exact hs2.ents e he
    · obtain ⟨h1, h2⟩ := hder e he
      unfold Ent.holds
      rw [h1]
      exact ⟨(hblk e he).2, (hs1.cellsAt h2).2⟩
  · intro e he hw
    rcases List.mem_append.1 he with he | he
    · exact .inl ⟨e, he, rfl⟩
    · exact absurd hw (hro e he)
  · exact List.pairwise_iff_forall_sublist.2 fun {a b} hab => by
     intro hw
     rcases hw with hw | hw
     · exact absurd hw (hro a (hab.subset (by simp)))
     · exact absurd hw (hro b (hab.subset (by simp)))
 refine (hc.2 w _ w hsf).mono ?_
 rintro e w' ⟨v, N, rfl, hK, hsN, hmN⟩
 obtain ⟨hwN, hmN0, hk'⟩ := hk v N hK
 have hge : ∀ e ∈ N, (∃ m ∈ Hw, m.blk = e.blk) ∨ w.heap.size ≤ e.blk := fun e he => hsN.own e he (allWr_mem hwN e he)
 have hne : ∀ e ∈ N, ∀ x ∈ Hr, x.blk ≠ e.blk := fun e he x hx => by
  rcases hge e he with ⟨m, hm, h⟩ | h
  · rw [← h]; exact (hap.2.2 m hm x hx (.inl (hmw m hm))).symm
  · have := Ent.lt (hs1.ents x hx); omega
 refine ⟨v, N ++ Hr, rfl, hk' (freshN_of hne), ⟨hsN.os.trans hs.os, hsN.tape.trans hs.tape, hsN.output.trans hs.output, Nat.le_trans hs.size hsN.size, ?_, ?_, ?_, ?_⟩, ?_⟩
 · intro b hb hmu
   rw [hsN.old b (Nat.lt_of_lt_of_le hb hs.size) (by
    rintro ⟨m, hm, rfl⟩
    rcases hs2.own m hm (hmw m hm) with h | h
    · exact hmu h
    · omega)]
   exact hs.old b hb hmu
 · intro x hx
   rcases List.mem_append.1 hx with hx | hx
   · exact hsN.ents x hx
   · refine Ent.holds_of (hs1.ents x hx) (hsN.old _ (Ent.lt (hs1.ents x hx)) ?_)
     rintro ⟨m, hm, h⟩
     exact hap.2.2 m hm x hx (.inl (hmw m hm)) h
 · intro x hx hxw
   rcases List.mem_append.1 hx with hx | hx
   · rcases hge x hx with ⟨m, hm, h⟩ | h
     · rw [← h]; exact hs2.own m hm (hmw m hm)
     · exact .inr (Nat.le_trans hs.size h)
   · exact hs1.own x hx hxw
 · exact List.pairwise_append.2 ⟨hsN.apart, hap.2.1, fun x hx y hy _ => (hne x hx y hy).symm⟩
 · rw [marks_append, hmN0, marks_append, mks Hw hmo]
def Less (H H' : Hp) : Prop := ∀ w0 mu w, Sat w0 mu H w → Sat w0 mu H' w
theorem CallsV.less {P : Program} {g : FuncId} {args : List Value} {H : Hp} {K K' : Value → Hp → Prop} (hc : CallsV P g args H K) (hk : ∀ v H', K v H' → ∃ H'', Less H' H'' ∧ marksOf H'' = marksOf H' ∧ K' v H'') : CallsV P g args H K' := by
 refine ⟨hc.1, fun w0 mu w hs => (hc.2 w0 mu w hs).mono ?_⟩
 rintro e w' ⟨v, H', rfl, h1, h2, h3⟩
 obtain ⟨H'', h4, h5, h6⟩ := hk v H' h1
 exact ⟨v, H'', rfl, h6, h4 _ _ _ h2, h5.trans h3⟩
theorem Less.refl (H : Hp) : Less H H := fun _ _ _ h => h
theorem less_vec {b e s cap : Nat} {xs ys : List Value} {H : Hp} : Less (⟨b, 0, .vec e s cap, xs ++ ys⟩ :: H) (⟨b, 0, .vec e s cap, xs⟩ :: H) := fun w0 mu w hs => by
 have hh := hs.ents _ (List.mem_cons_self ..)
 unfold Ent.holds at hh
 dsimp only at hh
 obtain ⟨h0, cs, fz, hcs, hfz, hsize, hle, hpre⟩ := hh
 obtain ⟨p1, p2⟩ := List.pairwise_cons.1 hs.apart
 refine ⟨hs.os, hs.tape, hs.output, hs.size, hs.old, fun x hx => ?_, fun x hx hw => ?_, List.pairwise_cons.2 ⟨fun x hx hw => p1 x hx (.inl trivial), p2⟩⟩
 · rcases List.mem_cons.1 hx with rfl | hx
   · unfold Ent.holds
     refine ⟨rfl, cs, fz, hcs, hfz, hsize, ?_, fun k v hk => hpre k v ?_⟩
     · rw [List.length_append] at hle; dsimp only; omega
     · dsimp only at hk
       rw [List.getElem?_append_left (List.getElem?_eq_some_iff.1 hk).1]; exact hk
   · exact hs.ents x (List.mem_cons_of_mem _ hx)
 · rcases List.mem_cons.1 hx with rfl | hx
   · exact hs.own ⟨b, 0, .vec e s cap, xs ++ ys⟩ (List.mem_cons_self ..) trivial
   · exact hs.own x (List.mem_cons_of_mem _ hx) hw
def Kind.wide : Kind → Bool
 | .vec _ s _ => s != 1
 | _ => true
noncomputable def ovM : List Value → Hp → Option Value
 | [.slice (some ⟨b1, _, none⟩) _ _, .slice (some ⟨b2, _, none⟩) _ _], H => match findE H b1, findE H b2 with
   | some e1, some e2 => if b1 = b2 then none else if (e1.kind.solid = true ∧ e1.kind.wide = true) ∧ e2.kind.solid = true ∧ e2.cells.length ≠ 0 then some (.bool false) else none
   | _, _ => none
 | _, _ => none
attribute [push_cast] ovM Kind.wide
theorem solid_heap0 {w : World} {e : Ent} (h : e.holds w) (hs : e.kind.solid = true) (hw : e.kind.wide = true) : ∃ cs t fz, w.heap[e.blk]? = some (.cells cs t fz) ∧ fz.2 = 0 ∧ e.cells.length ≤ cs.size := by
 unfold Ent.holds at h
 split at h
 · rename_i hk; rw [hk] at hs; cases hs
 · exact ⟨_, _, _, h.2, rfl, by simp⟩
 · rename_i hk
   obtain ⟨h0, cs, fz, hcs, hz, hsize, hle, _⟩ := h
   rw [hk] at hw
   refine ⟨cs, _, fz, hcs, ?_, by omega⟩
   rcases hz with hz | ⟨rfl, -⟩
   · exact hz
   · cases hw
 · rename_i hk; rw [hk] at hs; cases hs
theorem solid_heap {w : World} {e : Ent} (h : e.holds w) (hs : e.kind.solid = true) : ∃ cs t fz, w.heap[e.blk]? = some (.cells cs t fz) ∧ e.cells.length ≤ cs.size := by
 unfold Ent.holds at h
 split at h
 · rename_i hk; rw [hk] at hs; cases hs
 · exact ⟨_, _, _, h.2, by simp⟩
 · obtain ⟨h0, cs, fz, hcs, _, hsize, hle, _⟩ := h; exact ⟨cs, _, fz, hcs, by omega⟩
 · rename_i hk; rw [hk] at hs; cases hs
theorem ovM_run {P : Program} {args : List Value} {H : Hp} {v : Value} (h : ovM args H = some v) {tS tR e : TypeId} (ht : P.underlying tS = some (.slice e)) {size : Nat} (hz : ∀ w, (Go.sizeOf e).run P w = .ok size w) {w0 w : World} {mu : Nat → Prop} (hs : Sat w0 mu H w) :
  (Extern.SlicesOverlaps.overlaps #[tS, tS] #[tR] args.toArray).run P w = .ok v w := by
 unfold ovM at h
 split at h
 case h_2 => cases h
 rename_i b1 o1 n1 c1 b2 o2 n2 c2
 split at h
 case h_2 => cases h
 rename_i e1 e2 h1 h2
 split at h
 · cases h
 rename_i hne
 split at h
 case isFalse => cases h
 rename_i hc
 cases h
 obtain ⟨m1, rfl⟩ := findE_mem h1
 obtain ⟨m2, rfl⟩ := findE_mem h2
 obtain ⟨cs1, t1, z1, g1, g0, g2⟩ := solid_heap0 (hs.ents _ m1) hc.1.1 hc.1.2
 obtain ⟨cs2, t2, z2, g3, g4⟩ := solid_heap (hs.ents _ m2) hc.2.1
 exact Lib.run_overlaps_apart w tS tR e ht size hz ⟨e1.blk, o1, none⟩ ⟨e2.blk, o2, none⟩ n1 c1 n2 c2 hne t1 t2 cs1.size cs2.size (by simp [World.shape?, g1]) (by simp [World.shape?, g3]) (by omega) (by simp [World.frozen?, g1, g0]) (by simp [World.frozen?, g1, g0])
end Go.Ev
namespace Go.Ev
theorem setSeg_flat {L : List (Ac × Value)} : (L.flatMap acC).length = L.length * 27 := flatMap_len acC_len L
theorem acC_drops (L : List (Ac × Value)) (i : Nat) : List.drop (i * 27) (L.flatMap acC) = (L.drop i).flatMap acC := by
 induction L generalizing i with
 | nil => simp
 | cons x r ih =>
   cases i with
   | zero => simp
   | succ i =>
     rw [List.flatMap_cons, Nat.succ_mul, Nat.add_comm, ← List.drop_drop, List.drop_left' (acC_len x), ih, List.drop_succ_cons]
theorem acC_takes (L : List (Ac × Value)) (i : Nat) : List.take (i * 27) (L.flatMap acC) = (L.take i).flatMap acC := by
 induction L generalizing i with
 | nil => simp
 | cons x r ih =>
   cases i with
   | zero => simp
   | succ i =>
     rw [List.flatMap_cons, Nat.succ_mul, Nat.add_comm, ← acC_len x, List.take_length_add_append, acC_len x, ih, List.take_succ_cons, List.flatMap_cons]
end Go.Ev
namespace Go.Proofs.YtpcjmmdgopihcaaGreatDoor
open Go Go.Ev Go.Proofs
theorem ovM_ok (args : List Value) (H : Hp) (v : Value) (h : ovM args H = some v) : ExtM Tryz.prog 66 args H v := by
 intro w0 mu w hs
 rw [run_callFunc_extern Tryz.func66 (by kernel_rfl) (by kernel_rfl) (by kernel_rfl) (e := Extern.SlicesOverlaps.overlaps #[22, 22] #[4]) (by kernel_rfl)]
 rw [ovM_run (P := Tryz.prog) h (e := 31) (by kernel_rfl) (size := 27) (fun w => by rfl) hs]
 rfl
noncomputable def gA2 : Gam := (addM 66 ovM gA1)
attribute [push_cast] gA2
theorem gA2_ok : GamOk Tryz.prog gA2 := (addM_ok ovM_ok gA1_ok)
theorem delete_ok {P R : List (Ac × Value)} {x : Ac × Value} {b c n p q : Nat} (hp : P.length = p) (hq : R.length = q) (hnn : n = p + q + 1) (hc : n ≤ c) (hP : ∀ y ∈ P ++ x :: R, oneC y.2 = true) (hn : n ≤ 1000000000) :
  CallsV Tryz.prog 46 [.slice (some ⟨b, 0, none⟩) n c, .int .i64 p, .int .i64 (p + 1)] [⟨b, 0, .vec 31 27 c, (P ++ x :: R).flatMap acC⟩]
   (fun v N => v = .slice (some ⟨b, 0, none⟩) (p + q) c ∧ N = [⟨b, 0, .vec 31 27 c, (P ++ R).flatMap acC⟩]) := by
 have hlP : (P.flatMap acC).length = p * 27 := by rw [← hp]; exact setSeg_flat
 have hlR : (R.flatMap acC).length = q * 27 := by rw [← hq]; exact setSeg_flat
 have hlx : (acC x).length = 27 := acC_len x
 have e0 : (P ++ x :: R).flatMap acC = P.flatMap acC ++ (acC x ++ R.flatMap acC) := by rw [List.flatMap_append, List.flatMap_cons]
 have e1 : (P ++ R).flatMap acC = P.flatMap acC ++ R.flatMap acC := List.flatMap_append
 have hoP := acAll (l := P) fun y hy => hP y (by simp [hy])
 have hoR := acAll (l := R) fun y hy => hP y (by simp [hy])
 rw [e0, e1]
 generalize P.flatMap acC = A at *
 generalize R.flatMap acC = B at *
 generalize acC x = X at *
 have i1 : (p : Int) + 1 ≤ (n : Int) := by omega
 have i3 : ((p : Int) == (p : Int) + 1) = false := by rw [beq_eq_false_iff_ne]; omega
 have i5 : (p : Int) ≤ (p : Int) + 1 := by omega
 have i6 : p + 1 ≤ n := by omega
 have i7 : p ≤ n := by omega
 have i8 : ((p : Int) + 1).toNat = p + 1 := by omega
 have i9 : (0 : Int) ≤ (p : Int) + 1 := by omega
 have i10 : p ≤ c := by omega
 have i11 : (p : Int) ≤ (c : Int) := by omega
 have i12 : ¬ c = 0 := by omega
 have i13 : n - (p + 1) = q := by omega
 refine CallsV.less (K := fun v N => v = .slice (some ⟨b, 0, none⟩) (p + q) c ∧ ∃ ys, N = [⟨b, 0, .vec 31 27 c, (A ++ B) ++ ys⟩]) ?_ (by
  rintro v _ ⟨rfl, ys, rfl⟩
  exact ⟨_, less_vec, rfl, rfl, rfl⟩)
 refine callsO gA2_ok Tryz.mix Tryz.pl46 Tryz.func46 rfl Tryz.ntmps46 Tryz.results46 rfl (by first | rfl | assumption) (Nat.le_of_ble_eq_true rfl) (by kernel_rfl) ?_
 have hsrc : srcL Tryz.prog [⟨b, 0, .vec 31 27 c, A ++ (X ++ B)⟩] 22 (.slice (if c = p + 1 then some ⟨b, 0, none⟩ else some ⟨b, (p + 1) * 27, none⟩) q (c - (p + 1))) 27 = some (B, q) := by
  have hd : List.drop ((p + 1) * 27) (A ++ (X ++ B)) = B := by
   rw [← List.append_assoc]
   exact List.drop_left' (by rw [List.length_append]; omega)
  by_cases hcp : c = p + 1
  · obtain rfl : q = 0 := by omega
    obtain rfl : B = [] := List.length_eq_zero_iff.1 (by omega)
    simp only [push_cast, seval, reduceCtorEq, hcp]
  · have ht : List.take (q * 27) B = B := List.take_of_length_le (by omega)
    have hle : (p + 1) * 27 + q * 27 ≤ A.length + (X.length + B.length) := by omega
    simp only [push_cast, seval, reduceCtorEq, hcp, hd, ht, hle]
 have i14 : ¬ (A.length + (X.length + B.length) = p * 27) := by omega
 have i15 : (p + q) * 27 ≤ A.length + (X.length + B.length) := by omega
 have i16 : ¬ c = p + q := by omega
 have i17 : ((p : Int) + (q : Int)).toNat = p + q := by omega
 have i18 : (p : Int) + (q : Int) ≤ (n : Int) := by omega
 have i19 : (0 : Int) ≤ (p : Int) + (q : Int) := by omega
 have i20 : n - (p + q) = 1 := by omega
 have i21 : p + q ≤ n := by omega
 obtain ⟨Y, hY⟩ : ∃ Y, Y = List.drop (p * 27 + B.length) (A ++ (X ++ B)) := ⟨_, rfl⟩
 have hYl : Y.length = 27 := by rw [hY, List.length_drop, List.length_append, List.length_append]; omega
 have i22 : List.take (p * 27) (A ++ (X ++ B)) = A := List.take_left' hlP
 have i23 : List.take ((p + q) * 27) (A ++ (B ++ Y)) = A ++ B := by
  rw [← List.append_assoc]
  exact List.take_left' (by rw [List.length_append]; omega)
 have i24 : (p + q) * 27 + 27 ≤ A.length + (B.length + Y.length) := by omega
 simp only [push_cast, seval, reduceCtorEq, i1, i3, i5, i6, i7, i8, i9, hc, i10, i11, i12, i13, hsrc, i14, i15, i16, i17, i18, i19, i20, i21, i22, ← hY, i23, i24, hoR, repL]
 exact ⟨_, List.Sublist.refl _, _, rfl⟩
def plIns : Plans := fun i => if i = 9 then [(0, 9)] else if i = 10 then [(0, 9)] else if i = 13 then [(0, 9)] else Tryz.pl47 i
attribute [push_cast] plIns
theorem insert_ok {P R : List (Ac × Value)} {z : Ac × Value} {b b2 c n p q k2 : Nat} (hp : P.length = p) (hq : R.length = q) (hnn : n = p + q) (hc : n ≤ c) (hP : ∀ y ∈ P ++ z :: R, oneC y.2 = true) (hn : n ≤ 1000000000) (hb : ¬ b = b2) :
  CallsV Tryz.prog 47 [.slice (some ⟨b, 0, none⟩) n c, .int .i64 p, .slice (some ⟨b2, 0, none⟩) 1 k2] [⟨b, 0, .vec 31 27 c, (P ++ R).flatMap acC⟩, ⟨b2, 0, .vec 31 27 1, acC z⟩]
   (fun v N => OutG 31 27 ((P ++ z :: R).flatMap acC) (n + 1) v N) := by
 have hlP : (P.flatMap acC).length = p * 27 := by rw [← hp]; exact setSeg_flat
 have hlR : (R.flatMap acC).length = q * 27 := by rw [← hq]; exact setSeg_flat
 have hlx : (acC z).length = 27 := acC_len z
 have e0 : (P ++ z :: R).flatMap acC = P.flatMap acC ++ (acC z ++ R.flatMap acC) := by rw [List.flatMap_append, List.flatMap_cons]
 have e1 : (P ++ R).flatMap acC = P.flatMap acC ++ R.flatMap acC := List.flatMap_append
 have hoP := acAll (l := P) fun y hy => hP y (by simp [hy])
 have hoR := acAll (l := R) fun y hy => hP y (by simp [hy])
 have hoz : (acC z).all oneC = true := acC_all (hP z (by simp))
 rw [e0, e1]
 generalize P.flatMap acC = A at *
 generalize R.flatMap acC = B at *
 generalize acC z = X at *
 have hb' : ¬ b2 = b := fun h => hb h.symm
 have i1 : (p : Int) ≤ (n : Int) := by omega
 have i2 : (0 : Int) ≤ (p : Int) := by omega
 have i3 : p ≤ n := by omega
 have i4 : List.take 27 X = X := List.take_of_length_le (by omega)
 have i5 : A.length + B.length = n * 27 := by omega
 refine CallsV.less (K := fun v N => OutG 31 27 (A ++ (X ++ B)) (n + 1) v N ∨ ∃ ys, n + 1 ≤ c ∧ v = .slice (some ⟨b, 0, none⟩) (n + 1) c ∧ N = [⟨b, 0, .vec 31 27 c, (A ++ (X ++ B)) ++ ys⟩]) ?_ (by
  rintro v N (h | ⟨ys, h1, rfl, rfl⟩)
  · exact ⟨N, Less.refl _, rfl, h⟩
  · exact ⟨_, less_vec, rfl, .inr ⟨b, c, rfl, h1, by rw [List.length_append, List.length_append]; omega, rfl⟩⟩)
 refine callsO gA2_ok Tryz.mix plIns Tryz.func47 rfl Tryz.ntmps47 Tryz.results47 rfl (by first | rfl | assumption) (Nat.le_of_ble_eq_true rfl) (by kernel_rfl) ?_
 rcases Nat.eq_zero_or_pos q with h0 | h0
 · obtain rfl : q = 0 := h0
   obtain rfl : B = [] := List.length_eq_zero_iff.1 (by omega)
   obtain rfl : p = n := by omega
   have j0 : ((p : Int) == (p : Int)) = true := beq_self_eq_true _
   rw [List.length_nil, Nat.add_zero] at i5
   simp only [push_cast, seval, reduceCtorEq, i1, i3, hb, hb', j0, hlx, i4, i5, hoz]
   refine ⟨by unfold two47; omega, fun b' c' hbb hcc => ?_⟩
   exact ⟨[_], (List.nil_sublist _).cons_cons _, .inl (.inr ⟨b', c', rfl, hcc, by rw [List.length_append]; omega, rfl⟩)⟩
 · have j0 : ((p : Int) == (n : Int)) = false := by rw [beq_eq_false_iff_ne]; omega
   have j1 : (n : Int) + 1 ≤ 9223372036854775807 := by omega
   have k2 : ¬ c = 0 := by omega
   rcases Nat.lt_or_ge c (n + 1) with h1 | h1
   · have j2 : (c : Int) < (n : Int) + 1 := by omega
     have k1 : (n : Int) + 1 - (p : Int) = (q : Int) + 1 := by omega
     have k3 : ((q : Int) + 1).toNat = q + 1 := by omega
     have k4 : c < p + (q + 1) := by omega
     have k5 : (p + (q + 1)) * 104 ≤ two47 := by unfold two47; omega
     have k6 : p * 27 ≤ A.length + B.length := by omega
     have k7 : List.take (p * 27) (A ++ B) = A := List.take_left' hlP
     have k8 : p ≤ c := by omega
     have k9 : (0 : Int) < (q : Int) + 1 := by omega
     simp only [push_cast, seval, reduceCtorEq, i1, i3, hb, hb', j0, wrap_i64' (show -9223372036854775808 ≤ (n : Int) + 1 ∧ (n : Int) + 1 ≤ 9223372036854775807 by omega), j2]
     refine regO gA2_ok ?_
     simp only [push_cast, seval, reduceCtorEq, i1, i3, hb, hb', wrap_i64' (show -9223372036854775808 ≤ (n : Int) + 1 ∧ (n : Int) + 1 ≤ 9223372036854775807 by omega), k1, wrap_i64' (show -9223372036854775808 ≤ (q : Int) + 1 ∧ (q : Int) + 1 ≤ 9223372036854775807 by omega), k2, k3, k4, k5, k6, k7, k8, k9]
     intro b3 c3 hb3 hc3
     generalize hZ : repL (q + 1) _ = Z
     have hZl : Z.length = (q + 1) * 27 := by rw [← hZ, repL_len]; rfl
     refine regO gA2_ok ?_
     have m1 : ¬ c3 = p := by omega
     have m2 : min 1 (q + 1) = 1 := by omega
     have m3 : p * 27 + 27 ≤ A.length + Z.length := by omega
     have m4 : List.take (p * 27) (A ++ Z) = A := List.take_left' hlP
     have m5 : List.drop (p * 27 + 27) (A ++ Z) = List.drop 27 Z := by rw [← hlP, List.drop_length_add_append]
     obtain ⟨Y, hY⟩ : ∃ Y, Y = List.drop 27 Z := ⟨_, rfl⟩
     have hYl : Y.length = q * 27 := by rw [hY, List.length_drop]; omega
     have m6 : p + (q + 1) - p = q + 1 := by omega
     have m7 : p ≤ p + (q + 1) := by omega
     have m8 : (p : Int) ≤ (p : Int) + ((q : Int) + 1) := by omega
     have n1 : (p : Int) + 1 ≤ (p : Int) + ((q : Int) + 1) := by omega
     have n2 : (0 : Int) ≤ (p : Int) + 1 := by omega
     have n3 : ((p : Int) + 1).toNat = p + 1 := by omega
     have n4 : ¬ c3 = p + 1 := by omega
     have n5 : p + (q + 1) - (p + 1) = q := by omega
     have n6 : n - p = q := by omega
     have n7 : min q q = q := Nat.min_self q
     have n8 : ¬ c = p := by omega
     have n9 : List.drop (p * 27) (A ++ B) = B := List.drop_left' hlP
     have o1 : List.take (q * 27) B = B := List.take_of_length_le (by omega)
     have o2 : p * 27 + q * 27 ≤ A.length + q * 27 := by omega
     have o3 : ¬ q = 0 := by omega
     have o4 : (p + 1) * 27 + q * 27 ≤ A.length + (27 + Y.length) := by omega
     have o5 : List.take ((p + 1) * 27) (A ++ (X ++ Y)) = A ++ X := by
      rw [← List.append_assoc]
      exact List.take_left' (by rw [List.length_append]; omega)
     have o6 : List.drop ((p + 1) * 27 + q * 27) (A ++ (X ++ Y)) = [] := List.drop_of_length_le (by rw [List.length_append, List.length_append]; omega)
     simp only [push_cast, seval, reduceCtorEq, hb, hb', hb3, m1, m2, m3, m4, m5, ← hY, m6, m7, m8, hlx, i4, hoz, wrap_i64' (show -9223372036854775808 ≤ (p : Int) + 1 ∧ (p : Int) + 1 ≤ 9223372036854775807 by omega), n1, n2, n3, n4, n5, n6, n7, n8, n9, i3, o1, o2, o3, h0, hoR, hlR, o4, o5, o6]
     refine ⟨[_], (List.nil_sublist _).cons_cons _, .inl (.inr ⟨b3, c3, by rw [show p + (q + 1) = n + 1 by omega], by omega, by simp only [List.length_append]; omega, rfl⟩)⟩
   · have j2 : ¬ (c : Int) < (n : Int) + 1 := by omega
     simp only [push_cast, seval, reduceCtorEq, i1, i3, hb, hb', j0, wrap_i64' (show -9223372036854775808 ≤ (n : Int) + 1 ∧ (n : Int) + 1 ≤ 9223372036854775807 by omega), j2]
     refine fullV fun ys hys => ?_
     rw [List.append_assoc] at hys ⊢
     have hyl : A.length + (B.length + ys.length) = c * 27 := by rw [← hys, List.length_append, List.length_append]
     refine regO gA2_ok ?_
     have m1 : (n : Int) + 1 ≤ (c : Int) := by omega
     have m2 : (0 : Int) ≤ (n : Int) + 1 := by omega
     have m3 : ((n : Int) + 1).toNat = n + 1 := by omega
     have m4 : n + 1 ≤ c := h1
     have n1 : (p : Int) + 1 ≤ (n : Int) + 1 := by omega
     have n2 : (0 : Int) ≤ (p : Int) + 1 := by omega
     have n3 : ((p : Int) + 1).toNat = p + 1 := by omega
     have n4 : ¬ c = p + 1 := by omega
     have n5 : n + 1 - (p + 1) = q := by omega
     have n6 : n + 1 - p = q + 1 := by omega
     have n7 : min (q + 1) q = q := by omega
     have n8 : ¬ c = p := by omega
     have n9 : List.drop (p * 27) (A ++ (B ++ ys)) = B ++ ys := List.drop_left' hlP
     have o1 : List.take (q * 27) (B ++ ys) = B := List.take_left' hlR
     have o2 : p * 27 + q * 27 ≤ A.length + (q * 27 + ys.length) := by omega
     have o3 : ¬ q = 0 := by omega
     have o4 : (p + 1) * 27 + q * 27 ≤ A.length + (q * 27 + ys.length) := by omega
     have o7 : ¬ (A.length + (q * 27 + ys.length) = 0) := by omega
     obtain ⟨T1, hT1⟩ : ∃ T, T = List.take ((p + 1) * 27) (A ++ (B ++ ys)) := ⟨_, rfl⟩
     obtain ⟨U, hU⟩ : ∃ U, U = List.drop ((p + 1) * 27 + q * 27) (A ++ (B ++ ys)) := ⟨_, rfl⟩
     have hTl : T1.length = (p + 1) * 27 := by rw [hT1, List.length_take, List.length_append, List.length_append]; omega
     have q1 : List.take (p * 27) (T1 ++ (B ++ U)) = A := by
      rw [List.take_append_of_le_length (by omega), hT1, List.take_take, Nat.min_eq_left (by omega)]
      exact List.take_left' hlP
     have q2 : List.drop (p * 27 + 27) (T1 ++ (B ++ U)) = B ++ U := List.drop_left' (by omega)
     have q3 : p * 27 + 27 ≤ T1.length + (q * 27 + U.length) := by omega
     have q4 : min 1 (q + 1) = 1 := by omega
     simp only [push_cast, seval, reduceCtorEq, hb, hb', k2, wrap_i64' (show -9223372036854775808 ≤ (n : Int) + 1 ∧ (n : Int) + 1 ≤ 9223372036854775807 by omega), m1, m2, m3, m4, wrap_i64' (show -9223372036854775808 ≤ (p : Int) + 1 ∧ (p : Int) + 1 ≤ 9223372036854775807 by omega), n1, n2, n3, n4, n5, n6, n7, n8, n9, i3, o1, o2, o3, h0, hoR, hlR, o4, o7, ← hT1, ← hU, q1, q2, q3, q4, hlx, i4, hoz, i1]
     exact ⟨[_], (List.nil_sublist _).cons_cons _, .inr ⟨U, rfl⟩⟩
end Go.Proofs.YtpcjmmdgopihcaaGreatDoor
namespace Go.Ev
structure PlaceA (L : List (Ac × Value)) (a : Ad) (i : Nat) : Prop where
 le : i ≤ L.length
 lo : ∀ (k : Nat) (x : Ac × Value), k < i → L[k]? = some x → x.1.at_.num < a.num
 hi : ∀ (k : Nat) (x : Ac × Value), i ≤ k → L[k]? = some x → a.num ≤ x.1.at_.num
theorem half_mid {i j m : Nat} (h : i + j ≤ 4000000000000000000) (hm : (i + j) / 2 = m) : IntKind.i64.wrap (shrI .u64 (IntKind.u64.wrap ((i : Int) + (j : Int))) 1) = (m : Int) := by
 rw [wrap_u64' ⟨by omega, by omega⟩]
 have : shrI .u64 ((i : Int) + (j : Int)) 1 = (m : Int) := by
  unfold shrI
  rw [show min (1 : Int).toNat IntKind.u64.bits = 1 from rfl, Int.fdiv_eq_ediv_of_nonneg _ (by decide)]
  omega
 rw [this, wrap_i64' ⟨by omega, by omega⟩]
end Go.Ev
namespace Go.Proofs.YtpcjmmdgopihcaaGreatDoor
open Go Go.Ev Go.Proofs
theorem set1_ok (x : Ac × Value) (a : Ad) (hx : oneC x.2 = true) : CallsV Tryz.prog 45 [.agg (acC x).toArray, a.v] [] (Ret0 (.int .i64 (cmpA x.1.at_ a))) := by
 have h3 : List.take 20 (acC x) = x.1.at_.cells := x.1.at0 x.2
 refine callsO gA1_ok Tryz.mix Tryz.pl45 Tryz.func45 rfl Tryz.ntmps45 Tryz.results45 rfl (by first | rfl | assumption) (Nat.le_of_ble_eq_true rfl) (by kernel_rfl) ?_
 simp only [push_cast, seval, reduceCtorEq]
 intro b1 b2 hb2
 simp only [push_cast, seval, reduceCtorEq, hb2, h3]
theorem bsearch_ok {H : Hp} {L : List (Ac × Value)} {v : Value} {a : Ad} (hm : marksOf H = []) (hn : L.length ≤ 1000000000) (hl : LiR acC 27 H L v) (ho : ∀ x ∈ L, oneC x.2 = true) (hs : L.Pairwise fun x y => x.1.at_.num < y.1.at_.num) :
  CallsV Tryz.prog 44 [v, a.v, .func (.func 45) #[] #[]] H (fun u N => ∃ i, PlaceA L a i ∧ u = .tuple #[.int .i64 i, .bool (decide (∃ x, L[i]? = some x ∧ x.1.at_ = a))] ∧ N = []) := by
 obtain ⟨p, k, rfl, hla⟩ := hl.openA
 refine callsO gA1_ok Tryz.mix Tryz.pl44 Tryz.func44 rfl Tryz.ntmps44 Tryz.results44 rfl (by first | rfl | assumption) (Nat.le_of_ble_eq_true rfl) (by kernel_rfl) ?_
 simp only [push_cast, seval, reduceCtorEq]
 intro b4 hb4
 refine loopO gA1_ok (pl := Tryz.pl44) Tryz.mix (X := Nat × Nat)
  (fun s => ([(0, .slice p L.length k), (2, .func (.func 45) #[] #[]), (4, .pointer (some ⟨b4, 0, none⟩)), (8, .int .i64 L.length), (9, .int .i64 s.1), (10, .int .i64 s.2)], ⟨b4, 0, .cel 25, a.cells⟩ :: H))
  (fun s => s.1 ≤ s.2 ∧ s.2 ≤ L.length ∧ (∀ (k : Nat) (x : Ac × Value), k < s.1 → L[k]? = some x → x.1.at_.num < a.num) ∧ ∀ (k : Nat) (x : Ac × Value), s.2 ≤ k → L[k]? = some x → a.num ≤ x.1.at_.num) (fun s => s.2 - s.1) (0, L.length) ?_ ?_ (by kernel_rfl) ?_
 · exact ⟨Nat.zero_le _, Nat.le_refl _, fun k x h => absurd h (Nat.not_lt_zero _), fun k x h hx => absurd (List.getElem?_eq_some_iff.1 hx).1 (by dsimp only at h; omega)⟩
 · simp only [push_cast, seval, reduceCtorEq]
 · rintro ⟨i, j⟩ ⟨hij, hj, hlo, hhi⟩
   dsimp only at hij hj hlo hhi ⊢
   rcases Nat.lt_or_ge i j with hlt | hge
   · have i1 : (i : Int) < (j : Int) := by omega
     obtain ⟨m, hmm⟩ : ∃ m, (i + j) / 2 = m := ⟨_, rfl⟩
     have hh := half_mid (i := i) (j := j) (by omega) hmm
     have him : i ≤ m := by omega
     have hmj : m < j := by omega
     obtain ⟨x, hx⟩ : ∃ x, L[m]? = some x := ⟨L[m]'(by omega), List.getElem?_eq_getElem (by omega)⟩
     rcases hla with rfl | ⟨b, f', d, kd, cs, rfl, hfe, hat⟩
     · simp at hx
     obtain ⟨-, a1, a2⟩ := hat m x hx
     have n4 := (fresh_findS hb4 hfe).2
     have i2 : m < L.length := by omega
     simp only [push_cast, seval, reduceCtorEq, i1, hlt, wrap_i64' (show -9223372036854775808 ≤ (i : Int) + (j : Int) ∧ (i : Int) + (j : Int) ≤ 9223372036854775807 by omega), hh, i2, hfe, n4, a1, a2]
     refine TakeV.mk (Hf := []) trivial (set1_ok x a (ho x (List.mem_of_getElem? hx))) ?_
     rcases Nat.lt_or_ge x.1.at_.num a.num with hc | hc
     · have hc0 : cmpA x.1.at_ a < 0 := by rw [cmpA_eq, if_pos hc]; decide
       simp only [push_cast, seval, reduceCtorEq, hc0, wrap_i64' (show -9223372036854775808 ≤ (m : Int) + 1 ∧ (m : Int) + 1 ≤ 9223372036854775807 by omega)]
       refine ⟨(m + 1, j), ⟨hmj, hj, fun q y hq hy => ?_, hhi⟩, by dsimp only; omega, rfl, rfl⟩
       rcases Nat.lt_or_ge q m with h | h
       · exact Nat.lt_trans (by
          obtain ⟨hq1, hq2⟩ := List.getElem?_eq_some_iff.1 hy
          obtain ⟨hm1, hm2⟩ := List.getElem?_eq_some_iff.1 hx
          have := List.pairwise_iff_getElem.1 hs q m hq1 hm1 h
          rwa [hq2, hm2] at this) hc
       · obtain rfl : q = m := by omega
         rw [hx] at hy; cases hy; exact hc
     · have hc0 : ¬ cmpA x.1.at_ a < 0 := by rw [cmpA_eq, if_neg (by omega)]; split <;> decide
       simp only [push_cast, seval, reduceCtorEq, hc0]
       refine ⟨(i, m), ⟨him, by omega, hlo, fun q y hq hy => ?_⟩, by dsimp only; omega, rfl, rfl⟩
       rcases Nat.lt_or_ge m q with h | h
       · exact Nat.le_trans hc (Nat.le_of_lt (by
          obtain ⟨hq1, hq2⟩ := List.getElem?_eq_some_iff.1 hy
          obtain ⟨hm1, hm2⟩ := List.getElem?_eq_some_iff.1 hx
          have := List.pairwise_iff_getElem.1 hs m q hm1 hq1 h
          rwa [hq2, hm2] at this))
       · obtain rfl : q = m := by dsimp only at hq; omega
         rw [hx] at hy; cases hy; exact hc
   · obtain rfl : i = j := by omega
     rcases Nat.lt_or_ge i L.length with h1 | h1
     · obtain ⟨x, hx⟩ : ∃ x, L[i]? = some x := ⟨L[i], List.getElem?_eq_getElem h1⟩
       rcases hla with rfl | ⟨b, f', d, kd, cs, rfl, hfe, hat⟩
       · simp at hx
       obtain ⟨-, a1, a2⟩ := hat i x hx
       have n4 := (fresh_findS hb4 hfe).2
       have i1 : (i : Int) < (L.length : Int) := by omega
       simp only [push_cast, seval, reduceCtorEq, Nat.lt_irrefl, Int.lt_irrefl, i1, h1, hfe, n4, a1, a2]
       refine TakeV.mk (Hf := []) trivial (set1_ok x a (ho x (List.mem_of_getElem? hx))) ?_
       have hP : PlaceA L a i := ⟨hj, hlo, hhi⟩
       by_cases hxa : x.1.at_ = a
       · have hc0 : (cmpA x.1.at_ a == 0) = true := by rw [hxa, cmpA_eq, if_neg (Nat.lt_irrefl _), if_neg (Nat.lt_irrefl _)]; rfl
         simp only [push_cast, seval, reduceCtorEq, hc0, Nat.lt_irrefl, Int.lt_irrefl, i1, h1]
         refine ⟨[], List.nil_sublist _, i, hP, ?_, rfl⟩
         rw [decide_eq_true ⟨x, hx, hxa⟩]
       · have hc0 : (cmpA x.1.at_ a == 0) = false := by
          rw [beq_eq_false_iff_ne, cmpA_eq]
          have : ¬ x.1.at_.num = a.num := fun e => hxa (Ad.num_inj e)
          split
          · decide
          · rw [if_pos (by omega)]; decide
         simp only [push_cast, seval, reduceCtorEq, hc0, Nat.lt_irrefl, Int.lt_irrefl, i1, h1]
         refine ⟨[], List.nil_sublist _, i, hP, ?_, rfl⟩
         rw [decide_eq_false]
         rintro ⟨y, hy, hya⟩
         rw [hx] at hy; cases hy; exact hxa hya
     · have i1 : ¬ (i : Int) < (L.length : Int) := by omega
       have i2 : ¬ i < L.length := by omega
       simp only [push_cast, seval, reduceCtorEq, Nat.lt_irrefl, Int.lt_irrefl, i1, i2]
       refine ⟨[], List.nil_sublist _, i, ⟨hj, hlo, hhi⟩, ?_, rfl⟩
       rw [decide_eq_false]
       rintro ⟨y, hy, -⟩
       exact i2 (List.getElem?_eq_some_iff.1 hy).1
end Go.Proofs.YtpcjmmdgopihcaaGreatDoor
