/- Texts of this claim, merged by program: Tj Lb Lg Tk Tl EvT Aa Ab. -/
import Derived.Test.YtpcjmmdgopihcaaGreatDoorZgAg
import Derived.Test.YtpcjmmdgopihcaaGreatDoorZgAc
import Derived.Test.YtpcjmmdgopihcaaGreatDoorZgAd
import Derived.Test.YtpcjmmdgopihcaaGreatDoorZgAf
set_option linter.unusedSimpArgs false
set_option linter.unusedVariables false
set_option maxRecDepth 100000
set_option maxHeartbeats 4000000
namespace Go.Ev
theorem SlR.here {H : Hp} {l : List Sl} {b o n c : Nat} (h : SlR H l (.slice (some ⟨b, o, none⟩) n c)) (hn : l ≠ []) : ∃ e, findE H b = some e ∧ ∀ (i : Nat) (x : Sl), l[i]? = some x →
  e.off ≤ o + i * 8 ∧ e.off ≤ o + i * 8 + 4 ∧ o + i * 8 - e.off + 8 ≤ e.cells.length ∧ o + i * 8 - e.off + 4 ≤ e.cells.length ∧ o + i * 8 + 4 - e.off + 4 ≤ e.cells.length ∧
  List.take 8 (List.drop (o + i * 8 - e.off) e.cells) = x.cells ∧ List.take 4 (List.drop (o + i * 8 - e.off) e.cells) = x.key.cells ∧ List.take 4 (List.drop (o + i * 8 + 4 - e.off) e.cells) = x.val.cells := by
 rcases h.open with ⟨h0, _⟩ | ⟨b', o', c', e, hv, he, hx⟩
 · exact absurd h0 hn
 · cases hv; exact ⟨e, he, hx⟩
theorem SlR.lies {H : Hp} {l : List Sl} {v : Value} (h : SlR H l v) {k : Nat} (hk : k < l.length) : ∃ b o c, v = .slice (some ⟨b, o, none⟩) l.length c := by
 rcases h.open with ⟨h0, _⟩ | ⟨b', o', c', e, hv, he, hx⟩
 · rw [h0] at hk; cases hk
 · exact ⟨b', o', c', hv⟩
end Go.Ev
namespace Go.Proofs.YtpcjmmdgopihcaaGreatDoor
open Go Go.Ev Go.Proofs
theorem refPatch_ok {Hf : Hp} {l : List Sl} {v : Value} (hv : SlH l v Hf) (hn : l.length ≤ 2199023255551) : CallsV Tryz.prog 94 [v] Hf (Ret0 (.bool (patchB l))) := by
 have hm := hv.marks
 have hr := hv.r
 obtain ⟨q, c, rfl, _⟩ := id hr
 refine callsO gB_ok Tryz.mix Tryz.pl94 Tryz.func94 rfl Tryz.ntmps94 Tryz.results94 rfl (by first | rfl | assumption) (Nat.le_of_ble_eq_true rfl) (by kernel_rfl) ?_
 simp only [push_cast, seval, reduceCtorEq]
 refine loopO gB_ok (pl := Tryz.pl94) Tryz.mix (X := Nat)
  (fun k => ([(0, .slice q l.length c), (3, .int .i64 k)], Hf))
  (fun k => 0 < k ∧ k ≤ l.length + 1 ∧ ∀ i x y, i + 1 < k → l[i]? = some x → l[i + 1]? = some y → x.key.num < y.key.num) (fun k => l.length + 1 - k) 1 ?_ ?_ (by kernel_rfl) ?_
 · exact ⟨Nat.one_pos, by omega, fun i x y h => by omega⟩
 · simp only [push_cast, seval, reduceCtorEq, hm]
 · rintro k ⟨h0, hk, ho⟩
   dsimp only at hk ho ⊢
   rcases Nat.lt_or_ge k l.length with hlt | hge
   · obtain ⟨j, rfl⟩ : ∃ j, k = j + 1 := ⟨k - 1, by omega⟩
     obtain ⟨k, hkj⟩ : ∃ k, k = j + 1 := ⟨_, rfl⟩
     rw [← hkj] at hlt ho ⊢
     have hjl : j < l.length := by omega
     obtain ⟨x, hx⟩ : ∃ x, l[j]? = some x := ⟨l[j], List.getElem?_eq_getElem hjl⟩
     obtain ⟨y, hy⟩ : ∃ y, l[k]? = some y := ⟨l[k], List.getElem?_eq_getElem hlt⟩
     obtain ⟨b, o, c', hc⟩ := hr.lies hlt
     cases hc
     obtain ⟨e, he, hg⟩ := hr.here (by rintro rfl; cases hlt)
     have hxj := hg j x hx
     have hyk := hg k y hy
     have ej : (k : Int) - 1 = (j : Int) := by omega
     rcases Int.lt_or_le (x.key.cmp y.key) 0 with hc | hc
     · have h2 := W.cmp_neg.1 hc
       have hc' : ¬ (0 : Int) ≤ x.key.cmp y.key := by omega
       simp only [push_cast, seval, reduceCtorEq, hlt, hjl, ej, wrap_i64' (show -9223372036854775808 ≤ (j : Int) ∧ (j : Int) ≤ 9223372036854775807 by omega), he, hxj, hyk, hc', wrap_i64' (show -9223372036854775808 ≤ (k : Int) + 1 ∧ (k : Int) + 1 ≤ 9223372036854775807 by omega)]
       refine ⟨k + 1, ⟨by omega, by omega, fun i x' y' hi h3 h4 => ?_⟩, by omega, rfl⟩
       rcases Nat.lt_or_ge (i + 1) k with h5 | h5
       · exact ho i x' y' h5 h3 h4
       · obtain rfl : i = j := by omega
         rw [← hkj] at h4
         rw [hx] at h3; rw [hy] at h4
         cases h3; cases h4
         exact h2
     · have h0 : patchB l = false := by
        unfold patchB
        rw [risesB_false fun hrr => ?_, Bool.and_false]
        have := W.cmp_neg.2 (hrr j x y hx (by rw [← hkj]; exact hy))
        omega
       simp only [push_cast, seval, reduceCtorEq, hlt, hjl, ej, wrap_i64' (show -9223372036854775808 ≤ (j : Int) ∧ (j : Int) ≤ 9223372036854775807 by omega), he, hxj, hyk, hc, h0]
   · have h0 : risesB l = true := risesB_true (fun i x y hi hj => ho i x y (by have := (List.getElem?_eq_some_iff.1 hj).1; omega) hi hj)
     have e2 : ¬ k < l.length := by omega
     have e3 : patchB l = decide ((l.length : Int) ≤ 1000) := by
      unfold patchB
      rw [h0, Bool.and_true]
      congr 1
      simp only [eq_iff_iff]
      omega
     simp only [push_cast, seval, reduceCtorEq, e2, e3]
theorem refRight_ok {Hf : Hp} {l : List Sl} {v : Value} (hv : SlH l v Hf) (hn : l.length ≤ 2199023255551) : CallsV Tryz.prog 64 [v] Hf (Ret0 (.bool (rightB l))) := by
 have hm := hv.marks
 have hr := hv.r
 obtain ⟨q, c, rfl, _⟩ := id hr
 refine callsO gB_ok Tryz.mix Tryz.pl64 Tryz.func64 rfl Tryz.ntmps64 Tryz.results64 rfl (by first | rfl | assumption) (Nat.le_of_ble_eq_true rfl) (by kernel_rfl) ?_
 simp only [push_cast, seval, reduceCtorEq]
 refine loopO gB_ok (pl := Tryz.pl64) Tryz.mix (X := Nat)
  (fun k => ([(0, .slice q l.length c), (3, .int .i64 k)], Hf))
  (fun k => k ≤ l.length ∧ ∀ i x, i < k → l[i]? = some x → ¬ x.val = W.zero) (fun k => l.length - k) 0 ?_ ?_ (by kernel_rfl) ?_
 · exact ⟨Nat.zero_le _, fun i x h => by omega⟩
 · simp only [push_cast, seval, reduceCtorEq, hm]
 · rintro k ⟨hk, ho⟩
   dsimp only at hk ho ⊢
   rcases Nat.lt_or_ge k l.length with hlt | hge
   · obtain ⟨x, hx⟩ : ∃ x, l[k]? = some x := ⟨l[k], List.getElem?_eq_getElem hlt⟩
     obtain ⟨b, o, c', hc⟩ := hr.lies hlt
     cases hc
     obtain ⟨e, he, hg⟩ := hr.here (by rintro rfl; cases hlt)
     have hxk := hg k x hx
     by_cases h0 : x.val = W.zero
     · have e1 : decide (x.val = W.zero) = true := by simpa using h0
       have e2 : rightB l = false := by
        unfold rightB
        have : (l.any fun x => decide (x.val = W.zero)) = true := List.any_eq_true.2 ⟨x, List.mem_of_getElem? hx, e1⟩
        rw [this]; simp
       simp only [push_cast, seval, reduceCtorEq, hlt, he, hxk, W.zero_agg, e1, e2]
     · have e1 : decide (x.val = W.zero) = false := by simpa using h0
       simp only [push_cast, seval, reduceCtorEq, hlt, he, hxk, W.zero_agg, e1, wrap_i64' (show -9223372036854775808 ≤ (k : Int) + 1 ∧ (k : Int) + 1 ≤ 9223372036854775807 by omega)]
       refine ⟨k + 1, ⟨hlt, fun i y hi hy => ?_⟩, by omega, rfl⟩
       rcases Nat.lt_or_ge i k with h5 | h5
       · exact ho i y h5 hy
       · obtain rfl : i = k := by omega
         rw [hx] at hy; cases hy; exact h0
   · have e2 : ¬ k < l.length := by omega
     have e3 : rightB l = patchB l := by
      unfold rightB
      have : (l.any fun x => decide (x.val = W.zero)) = false := by
       rw [List.any_eq_false]
       intro x hx
       obtain ⟨i, hi⟩ := List.mem_iff_getElem?.1 hx
       have := ho i x (by have := (List.getElem?_eq_some_iff.1 hi).1; omega) hi
       simpa using this
      rw [this]; simp
     simp only [push_cast, seval, reduceCtorEq, e2]
     refine (refPatch_ok hv hn).pure hv.der ?_
     simp only [push_cast, seval, reduceCtorEq, e3]
theorem refGet_ok {Hf : Hp} {l : List Sl} {v : Value} {k : W} (hv : SlH l v Hf) (hn : l.length ≤ 2199023255551) : CallsV Tryz.prog 50 [v, k.v] Hf (Ret0 (getW l k).v) := by
 have hm := hv.marks
 have hr := hv.r
 obtain ⟨q, c, rfl, _⟩ := id hr
 refine callsO gB_ok Tryz.mix Tryz.pl50 Tryz.func50 rfl Tryz.ntmps50 Tryz.results50 rfl (by first | rfl | assumption) (Nat.le_of_ble_eq_true rfl) (by kernel_rfl) ?_
 simp only [push_cast, seval, reduceCtorEq]
 intro b3 hb3 b4 hb4
 refine loopO gB_ok (pl := Tryz.pl50) Tryz.mix (X := Nat)
  (fun i => ([(0, .slice q l.length c), (3, .pointer (some ⟨b3, 0, none⟩)), (4, .pointer (some ⟨b4, 0, none⟩)), (5, .int .i64 i)], ⟨b4, 0, .cel 28, W.zero.cells⟩ :: ⟨b3, 0, .cel 28, k.cells⟩ :: Hf))
  (fun i => i ≤ l.length ∧ ∀ j x, j < i → l[j]? = some x → ¬ x.key = k) (fun i => l.length - i) 0 ?_ ?_ (by kernel_rfl) ?_
 · exact ⟨Nat.zero_le _, fun i x h => by omega⟩
 · simp only [push_cast, seval, reduceCtorEq, hm]
   rfl
 · rintro i ⟨hi, ho⟩
   dsimp only at hi ho ⊢
   rcases Nat.lt_or_ge i l.length with hlt | hge
   · obtain ⟨x, hx⟩ : ∃ x, l[i]? = some x := ⟨l[i], List.getElem?_eq_getElem hlt⟩
     obtain ⟨b, o, c', hc⟩ := hr.lies hlt
     cases hc
     obtain ⟨e, he, hg⟩ := hr.here (by rintro rfl; cases hlt)
     have hxi := hg i x hx
     have hf3 := fresh_find hb3 he
     have hf4 := fresh_find hb4.2.2 he
     by_cases h0 : x.key = k
     · have e1 : decide (x.key = k) = true := by simpa using h0
       have e2 : getW l k = x.val := by
        unfold getW
        have : (l.find? fun x => decide (x.key = k)) = some x := by
         rw [List.find?_eq_some_iff_getElem]
         refine ⟨e1, i, hlt, by simpa [List.getElem?_eq_getElem hlt] using hx, fun j hj => ?_⟩
         have := ho j _ hj (List.getElem?_eq_getElem (by omega))
         simpa using this
        rw [this]; rfl
       simp only [push_cast, seval, reduceCtorEq, hlt, he, hxi, hf3, hf4, hb4, hb3, e1, e2]
     · have e1 : decide (x.key = k) = false := by simpa using h0
       simp only [push_cast, seval, reduceCtorEq, hlt, he, hxi, hf3, hf4, hb4, hb3, e1, wrap_i64' (show -9223372036854775808 ≤ (i : Int) + 1 ∧ (i : Int) + 1 ≤ 9223372036854775807 by omega)]
       refine ⟨i + 1, ⟨hlt, fun j y hj hy => ?_⟩, by omega, rfl⟩
       rcases Nat.lt_or_ge j i with h5 | h5
       · exact ho j y h5 hy
       · obtain rfl : j = i := by omega
         rw [hx] at hy; cases hy; exact h0
   · have e2 : ¬ i < l.length := by omega
     have e3 : getW l k = W.zero := by
      unfold getW
      have : (l.find? fun x => decide (x.key = k)) = none := by
       rw [List.find?_eq_none]
       intro x hx
       obtain ⟨j, hj⟩ := List.mem_iff_getElem?.1 hx
       have := ho j x (by have := (List.getElem?_eq_some_iff.1 hj).1; omega) hj
       simpa using this
      rw [this]; rfl
     simp only [push_cast, seval, reduceCtorEq, e2, e3, hb4, hb3, W.zero_agg]
end Go.Proofs.YtpcjmmdgopihcaaGreatDoor
namespace Go.Proofs.YtpcjmmdgopihcaaGreatDoor
open Go Go.Ev Go.Proofs
end Go.Proofs.YtpcjmmdgopihcaaGreatDoor
namespace Go.Ev
def Unl (l : List Sl) : Prop := l.Pairwise fun x y => ¬ x.key = y.key
theorem srt_unl {l : List Sl} (h : Srt l) : Unl l := List.Pairwise.imp (fun {x y} hxy e => by rw [e] at hxy; omega) h
theorem lk_app (l m : List Sl) (k : W) : lk (l ++ m) k = (lk l k).or (lk m k) := by
 induction l with
 | nil => simp [lk_nil]
 | cons x r ih =>
   rw [List.cons_append, lk_cons, lk_cons, ih]
   by_cases h : x.key = k <;> simp [h]
def putsL (a : List Sl) (s : List Sl) : List Sl := s.foldl (fun q x => mergeL q [x]) a
theorem putsL_succ (a s : List Sl) (x : Sl) : putsL a (s ++ [x]) = mergeL (putsL a s) [x] := by
 unfold putsL; rw [List.foldl_append]; rfl
theorem srt_one (x : Sl) : Srt [x] := List.pairwise_singleton _ _
theorem putsL_ok {a : List Sl} (ha : Srt a) (hz : NoZ a) : ∀ (n : Nat) (s : List Sl), s.length = n → Srt (putsL a s) ∧ NoZ (putsL a s) ∧ (putsL a s).length ≤ a.length + n
 | 0, s, h => by
   obtain rfl := List.length_eq_zero_iff.1 h
   exact ⟨ha, hz, Nat.le_refl _⟩
 | n + 1, s, h => by
   obtain ⟨s', x, rfl⟩ : ∃ s' x, s = s' ++ [x] := ⟨s.dropLast, s.getLast (by intro e; rw [e] at h; simp at h), (List.dropLast_concat_getLast _).symm⟩
   obtain ⟨h1, h2, h3⟩ := putsL_ok ha hz n s' (by simpa using h)
   rw [putsL_succ]
   have := (joinS_bound (putsL a s') [x]).1
   simp only [List.length_singleton] at this
   exact ⟨mergeL_srt h1 (srt_one x), mergeL_noz h1 (srt_one x) h2, by omega⟩
theorem putsL_lk {a : List Sl} (ha : Srt a) (hz : NoZ a) (k : W) : ∀ (n : Nat) (s : List Sl), s.length = n → Unl s → lk (putsL a s) k = match lk s k with
  | some v => if v = W.zero then none else some v
  | none => lk a k
 | 0, s, h, _ => by
   obtain rfl := List.length_eq_zero_iff.1 h
   rfl
 | n + 1, s, h, hu => by
   obtain ⟨s', x, rfl⟩ : ∃ s' x, s = s' ++ [x] := ⟨s.dropLast, s.getLast (by intro e; rw [e] at h; simp at h), (List.dropLast_concat_getLast _).symm⟩
   obtain ⟨u1, _, u2⟩ := List.pairwise_append.1 hu
   obtain ⟨h1, h2, _⟩ := putsL_ok ha hz n s' (by simpa using h)
   rw [putsL_succ, mergeL_lk h1 (srt_one x) h2, putsL_lk ha hz k n s' (by simpa using h) u1, lk_app, lk_cons]
   by_cases hk : x.key = k
   · have h0 : lk s' k = none := lk_none fun y hy e => u2 y hy x (by simp) (e.trans hk.symm)
     simp [hk, h0]
   · simp [hk, lk_nil]
theorem puts_merge {a b : List Sl} (ha : Ri a) (hb : Srt b) : putsL a b = mergeL a b := by
 obtain ⟨h1, h2, _⟩ := putsL_ok ha.srt ha.noz b.length b rfl
 refine srt_ext h1 (mergeL_srt ha.srt hb) fun k => ?_
 rw [putsL_lk ha.srt ha.noz k _ b rfl (srt_unl hb), mergeL_lk ha.srt hb ha.noz]
 all_goals (cases lk b k <;> rfl)
theorem subH_new : ∀ (H N : Hp), (∀ e ∈ N, ∀ x ∈ H, ¬ x.blk = e.blk) → subH (N ++ H) H
 | [], N, _ => by cases N <;> exact trivial
 | e :: r, N, h => by
   have hn : ∀ x ∈ N, ¬ x.blk = e.blk := fun x hx he => h x hx e (by simp) he.symm
   refine ⟨by rw [findE_skip hn]; simp [findE], ?_⟩
   have : ∀ (M : Hp), (∀ x ∈ M, ¬ x.blk = e.blk) → remE (M ++ e :: r) e.blk = M ++ r := fun M => by
    induction M with
    | nil => intro _; simp [remE]
    | cons y M ih =>
      intro hM
      have hy := hM y (by simp)
      rw [List.cons_append, remE, if_neg (Ne.symm hy), ih fun x hx => hM x (by simp [hx])]
      rfl
   rw [this N hn]
   exact subH_new r N fun x hx y hy => h x hx y (by simp [hy])
end Go.Ev
namespace Go.Ev
def putR (k w : W) : List Sl → Bool → List Sl
 | [], d => if d then [] else [⟨k, w⟩]
 | x :: r, d => if x.key = k then putR k w r d else if d = false ∧ 0 < x.key.cmp k then ⟨k, w⟩ :: x :: putR k w r true else x :: putR k w r d
theorem W.cmp_pos {x y : W} : 0 < x.cmp y ↔ y.num < x.num := by unfold W.cmp; repeat' split <;> omega
theorem putR_done {k w : W} : ∀ {l : List Sl}, (∀ x ∈ l, ¬ x.key = k) → putR k w l true = l
 | [], _ => rfl
 | x :: r, h => by
   rw [putR, if_neg (h x (by simp)), if_neg (by simp), putR_done fun y hy => h y (by simp [hy])]
theorem putR_lt {k w : W} : ∀ {l : List Sl} (d : Bool), (∀ x ∈ l, k.num < x.key.num) → putR k w l d = (if d then [] else [⟨k, w⟩]) ++ l
 | [], d, _ => by simp [putR]
 | x :: r, d, h => by
   have h0 := h x (by simp)
   have hne : ∀ y ∈ x :: r, ¬ y.key = k := fun y hy e => by have := h y hy; rw [e] at this; omega
   cases d with
   | true => rw [putR_done hne]; rfl
   | false =>
     rw [putR, if_neg (hne x (by simp)), if_pos ⟨rfl, W.cmp_pos.2 h0⟩, putR_done fun y hy => hne y (by simp [hy])]
     rfl
theorem mergeL_nil' : ∀ {l : List Sl}, NoZ l → mergeL l [] = l
 | [], _ => by simp [mergeL, joinS]
 | x :: r, h => by
   have h0 : ¬ x.val = W.zero := h x (by simp)
   have ih := mergeL_nil' (l := r) fun y hy => h y (by simp [hy])
   unfold mergeL at ih ⊢
   rw [joinS, List.filterMap_cons_some (b := x) (by simp [pickM, h0]), ih]
theorem putR_merge {k w : W} : ∀ {l : List Sl}, Srt l → NoZ l → putR k w l (decide (w = W.zero)) = mergeL l [⟨k, w⟩]
 | [], _, _ => by by_cases h : w = W.zero <;> simp [putR, mergeL, joinS, pickM, h]
 | x :: r, hs, hz => by
   obtain ⟨h1, h2⟩ := List.pairwise_cons.1 hs
   have hx0 : ¬ x.val = W.zero := hz x (by simp)
   have hzr : NoZ r := fun y hy => hz y (by simp [hy])
   have ih := putR_merge (k := k) (w := w) h2 hzr
   have hnil := mergeL_nil' (l := x :: r) hz
   have hnilr := mergeL_nil' (l := r) hzr
   unfold mergeL at ih hnil hnilr ⊢
   rw [joinS]
   dsimp only
   split
   · rename_i hlt
     have hne : ¬ x.key = k := fun e => by rw [e] at hlt; omega
     have hc : ¬ 0 < x.key.cmp k := fun h => by have := W.cmp_pos.1 h; omega
     rw [List.filterMap_cons_some (b := x) (by simp [pickM, hx0]), putR, if_neg hne, if_neg (fun h => hc h.2), ih]
   · split
     · rename_i hlt
       rw [putR_lt _ fun z hz => by
        rcases List.mem_cons.1 hz with rfl | hz
        · exact hlt
        · exact Nat.lt_trans hlt (h1 z hz)]
       by_cases hw : w = W.zero
       · rw [List.filterMap_cons_none (by simp [pickM, hw]), hnil]; simp [hw]
       · rw [List.filterMap_cons_some (b := ⟨k, w⟩) (by simp [pickM, hw]), hnil]; simp [hw]
     · rename_i n1 n2
       have he : x.key = k := W.num_inj (by omega)
       rw [putR, if_pos he, putR_lt _ fun z hz => by rw [← he]; exact h1 z hz]
       by_cases hw : w = W.zero
       · rw [List.filterMap_cons_none (by simp [pickM, hw]), hnilr]; simp [hw]
       · rw [List.filterMap_cons_some (b := ⟨k, w⟩) (by simp [pickM, hw]), hnilr]; simp [hw]
theorem putR_len (k w : W) : ∀ (l : List Sl) (d : Bool), (putR k w l d).length ≤ l.length + 1
 | [], d => by rw [putR]; split <;> simp
 | x :: r, d => by
   have h1 := putR_len k w r d
   have h2 := putR_len k w r true
   have h3 : (putR k w r true).length ≤ r.length := by
    clear h1 h2
    induction r with
    | nil => simp [putR]
    | cons y s ih =>
      rw [putR]
      split
      · simp; omega
      · rw [if_neg (by simp)]; simpa using ih
   rw [putR]
   split
   · simp; omega
   · split
     · simp; omega
     · simp; omega
theorem OutS.c {e : Nat} {l : List Sl} {v : Value} {N : Hp} (h : OutS e l v N) : OutC e 8 (slC l) l.length v N := by
 rcases h with ⟨rfl, rfl, rfl⟩ | ⟨b, c, h0, rfl, hc, rfl⟩
 · exact .inl ⟨rfl, rfl, rfl, rfl⟩
 · exact .inr ⟨b, c, List.length_pos_iff.2 h0, rfl, hc, slC_len l, rfl⟩
theorem OutC.s {e : Nat} {l : List Sl} {v : Value} {N : Hp} (h : OutC e 8 (slC l) l.length v N) : OutS e l v N := by
 rcases h with ⟨h0, _, rfl, rfl⟩ | ⟨b, c, h0, rfl, hc, _, rfl⟩
 · exact .inl ⟨List.length_eq_zero_iff.1 h0, rfl, rfl⟩
 · exact .inr ⟨b, c, List.length_pos_iff.1 h0, rfl, hc, rfl⟩
def putsR (l m : List Sl) : List Sl := m.foldl (fun q x => putR x.key x.val q (decide (x.val = W.zero))) l
theorem putsR_succ (a s : List Sl) (x : Sl) : putsR a (s ++ [x]) = putR x.key x.val (putsR a s) (decide (x.val = W.zero)) := by
 unfold putsR; rw [List.foldl_append]; rfl
theorem putsR_eq {a : List Sl} (ha : Srt a) (hz : NoZ a) : ∀ (n : Nat) (s : List Sl), s.length = n → putsR a s = putsL a s
 | 0, s, h => by
   obtain rfl := List.length_eq_zero_iff.1 h
   rfl
 | n + 1, s, h => by
   obtain ⟨s', x, rfl⟩ : ∃ s' x, s = s' ++ [x] := ⟨s.dropLast, s.getLast (by intro e; rw [e] at h; simp at h), (List.dropLast_concat_getLast _).symm⟩
   have hl : s'.length = n := by simpa using h
   obtain ⟨h1, h2, _⟩ := putsL_ok ha hz n s' hl
   rw [putsL_succ, putsR_succ, putsR_eq ha hz n s' hl, putR_merge h1 h2]
end Go.Ev
namespace Go.Proofs.YtpcjmmdgopihcaaGreatDoor
open Go Go.Ev Go.Proofs
theorem app_slot {X No : Hp} {out : List Sl} {vo : Value} {b : Nat} {x : Sl} {K : Value → Hp → Prop} (ho : OutS 67 out vo No) (hb : fresh b (No ++ X)) (hn : out.length ≤ 2100000000000)
  (hk : ∀ v' N', OutS 67 (out ++ [x]) v' N' → freshN N' (⟨b, 0, .vec 67 8 1, x.cells⟩ :: X) → K v' (N' ++ ⟨b, 0, .vec 67 8 1, x.cells⟩ :: X)) :
  evAppend Tryz.prog (⟨b, 0, .vec 67 8 1, x.cells⟩ :: (No ++ X)) 29 29 vo (.slice (some ⟨b, 0, none⟩) 1 1) K := by
 refine append_out1 (e := 67) (sz := 8) (by_ := 64) (n := out.length) (m := 1) (cs := slC out) (ys := x.cells) ho.c hb (by simp only [push_cast, seval, reduceCtorEq]) (by simp only [push_cast, seval, reduceCtorEq]) rfl rfl (by unfold two47; omega) fun v' N' h1 h2 => hk v' N' ?_ h2
 refine OutC.s ?_
 rw [slC_app, slC_one, List.length_append]
 exact h1
theorem slR_src {H : Hp} {l : List Sl} {v : Value} (h : SlR H l v) : srcL Tryz.prog H 29 v 8 = some (slC l, l.length) := by
 obtain ⟨e, n, he⟩ : ∃ e n, elemI Tryz.prog 29 = some (none, e, n) := ⟨8, true, by kernel_rfl⟩
 obtain ⟨p, c, rfl, rfl | ⟨b, o, rfl, h⟩⟩ := h
 · rcases p with _ | ⟨b, o, _ | sp⟩
   · rw [srcL_none, he]; rfl
   · rw [srcL_some, he]
     dsimp only
     cases hc : cellsAt H b o (([] : List Sl).length * 8) with
     | none => rfl
     | some cs =>
       have : cs = [] := by
        unfold cellsAt at hc
        split at hc
        · split at hc
          · unfold subL at hc
            split at hc
            · simpa using (Option.some.inj hc).symm
            · cases hc
          · cases hc
        · cases hc
       subst this
       rfl
   · unfold srcL; rw [he]; rfl
 · rw [srcL_some, he, h]
theorem refput_ok {Hf : Hp} {l : List Sl} {v : Value} {k w : W} (hv : SlH l v Hf) (hn : l.length ≤ 2000000000000) : CallsV Tryz.prog 99 [v, k.v, w.v] Hf (OutS 67 (putR k w l (decide (w = W.zero)))) := by
 have hm := hv.marks
 have hr := hv.r
 obtain ⟨q, c, rfl, _⟩ := id hr
 refine callsO gB_ok Tryz.mix Tryz.pl99 Tryz.func99 rfl Tryz.ntmps99 Tryz.results99 rfl (by first | rfl | assumption) (Nat.le_of_ble_eq_true rfl) (by kernel_rfl) ?_
 simp only [push_cast, seval, reduceCtorEq]
 intro b4 hb4 b5 hb5
 try simp only [push_cast, seval, reduceCtorEq, hb4, hb5, W.zero_agg]
 obtain ⟨d0, hd0⟩ : ∃ d0, d0 = decide (w = W.zero) := ⟨_, rfl⟩
 rw [← hd0]
 refine loopO gB_ok (pl := Tryz.pl99) Tryz.mix (X := Nat × Bool × List Sl × Value × Hp)
  (fun s => ([(0, .slice q l.length c), (4, .pointer (some ⟨b4, 0, none⟩)), (5, .pointer (some ⟨b5, 0, none⟩)), (7, s.2.2.2.1), (8, .bool s.2.1), (9, .int .i64 s.1)], s.2.2.2.2 ++ ⟨b5, 0, .cel 28, w.cells⟩ :: ⟨b4, 0, .cel 28, k.cells⟩ :: Hf))
  (fun s => s.1 ≤ l.length ∧ OutS 67 s.2.2.1 s.2.2.2.1 s.2.2.2.2 ∧ freshN s.2.2.2.2 (⟨b5, 0, .cel 28, w.cells⟩ :: ⟨b4, 0, .cel 28, k.cells⟩ :: Hf) ∧ s.2.2.1 ++ putR k w (l.drop s.1) s.2.1 = putR k w l d0)
  (fun s => l.length - s.1) (0, d0, [], .slice none 0 0, []) ?_ ?_ (by kernel_rfl) ?_
 · exact ⟨Nat.zero_le _, .inl ⟨rfl, rfl, rfl⟩, trivial, rfl⟩
 · simp only [push_cast, seval, reduceCtorEq, hm]
 · rintro ⟨i, d, out, vo, No⟩ ⟨hi, ho, hf, hp⟩
   dsimp only at hi ho hf hp ⊢
   have hol : out.length ≤ l.length + 1 := by
    have := putR_len k w l d0
    have h2 := congrArg List.length hp
    rw [List.length_append] at h2
    omega
   have f5 : findE (No ++ ⟨b5, 0, .cel 28, w.cells⟩ :: ⟨b4, 0, .cel 28, k.cells⟩ :: Hf) b5 = some ⟨b5, 0, .cel 28, w.cells⟩ := by
    rw [findE_freshN hf (b := b5) (e := ⟨b5, 0, .cel 28, w.cells⟩) (by simp only [push_cast, seval, reduceCtorEq])]; simp only [push_cast, seval, reduceCtorEq]
   have f4 : findE (No ++ ⟨b5, 0, .cel 28, w.cells⟩ :: ⟨b4, 0, .cel 28, k.cells⟩ :: Hf) b4 = some ⟨b4, 0, .cel 28, k.cells⟩ := by
    rw [findE_freshN hf (b := b4) (e := ⟨b4, 0, .cel 28, k.cells⟩) (by simp only [push_cast, seval, reduceCtorEq, hb5])]; simp only [push_cast, seval, reduceCtorEq, hb5]
   rcases Nat.lt_or_ge i l.length with hlt | hge
   · obtain ⟨x, hx⟩ : ∃ x, l[i]? = some x := ⟨l[i], List.getElem?_eq_getElem hlt⟩
     obtain ⟨b, o, c', hc⟩ := hr.lies hlt
     cases hc
     obtain ⟨e, he, hg⟩ := hr.here (by rintro rfl; cases hlt)
     have hxi := hg i x hx
     have hf3 := fresh_find hb4 he
     have hf4 := fresh_find hb5.2.2 he
     have fb : findE (No ++ ⟨b5, 0, .cel 28, w.cells⟩ :: ⟨b4, 0, .cel 28, k.cells⟩ :: Hf) b = some e := by
      rw [findE_freshN hf (b := b) (by simp only [push_cast, seval, reduceCtorEq, hf3, hf4]; exact he)]; simp only [push_cast, seval, reduceCtorEq, hf3, hf4]; exact he
     rw [List.drop_eq_getElem_cons hlt, show l[i] = x from (List.getElem?_eq_some_iff.1 hx).2, putR] at hp
     by_cases h0 : x.key = k
     · have e1 : decide (x.key = k) = true := by simpa using h0
       rw [if_pos h0] at hp
       simp only [push_cast, seval, reduceCtorEq, hlt, f4, f5, fb, hxi, e1, wrap_i64' (show -9223372036854775808 ≤ (i : Int) + 1 ∧ (i : Int) + 1 ≤ 9223372036854775807 by omega)]
       refine ⟨(i + 1, d, out, vo, No), ⟨hlt, ho, hf, hp⟩, by dsimp only; omega, ?_⟩
       exact ⟨⟨rfl, rfl, rfl⟩, subH_self _, rfl⟩
     · have e1 : decide (x.key = k) = false := by simpa using h0
       rw [if_neg h0] at hp
       cases d with
       | true =>
         rw [if_neg (by simp)] at hp
         simp only [push_cast, seval, reduceCtorEq, hlt, f4, f5, fb, hxi, e1]
         intro b10 hb10
         refine app_slot ho hb10 (by omega) fun v' N' ho' hf' => ?_
         simp only [push_cast, seval, reduceCtorEq, wrap_i64' (show -9223372036854775808 ≤ (i : Int) + 1 ∧ (i : Int) + 1 ≤ 9223372036854775807 by omega)]
         refine ⟨(i + 1, true, out ++ [x], v', N'), ⟨hlt, ho', freshN_cons hf', by rw [List.append_assoc]; exact hp⟩, by dsimp only; omega, ⟨rfl, rfl, rfl⟩, subH_pre (subH_cons (fresh_app hb10)) _, ?_⟩
         simp only [marks_append, marksOf]
       | false =>
         rcases Int.lt_or_le 0 (x.key.cmp k) with hc | hc
         · rw [if_pos ⟨rfl, hc⟩] at hp
           simp only [push_cast, seval, reduceCtorEq, hlt, f4, f5, fb, hxi, e1, hc]
           intro b10 hb10
           refine app_slot (x := ⟨k, w⟩) ho hb10 (by omega) fun v' N' ho' hf' => ?_
           have fb' : findE (N' ++ ⟨b10, 0, .vec 67 8 1, Sl.cells ⟨k, w⟩⟩ :: ⟨b5, 0, .cel 28, w.cells⟩ :: ⟨b4, 0, .cel 28, k.cells⟩ :: Hf) b = some e := by
            have := (fresh_find hb10 fb).2
            rw [findE_freshN hf' (b := b) (e := e) (by simp only [push_cast, seval, reduceCtorEq, hf3, hf4, this]; exact he)]; simp only [push_cast, seval, reduceCtorEq, hf3, hf4, this]; exact he
           simp only [push_cast, seval, reduceCtorEq, hlt, fb', hxi]
           intro b11 hb11
           refine app_slot (x := x) ho' hb11 (by simp; omega) fun v'' N'' ho'' hf'' => ?_
           simp only [push_cast, seval, reduceCtorEq, wrap_i64' (show -9223372036854775808 ≤ (i : Int) + 1 ∧ (i : Int) + 1 ≤ 9223372036854775807 by omega)]
           refine ⟨(i + 1, true, out ++ [⟨k, w⟩] ++ [x], v'', N''), ⟨hlt, ho'', freshN_cons (freshN_cons hf''), by rw [List.append_assoc, List.append_assoc]; exact hp⟩, by dsimp only; omega, ⟨rfl, rfl, rfl⟩, subH_pre ?_ _, ?_⟩
           · rw [subH_skip (e := ⟨b11, 0, .vec 67 8 1, x.cells⟩) (fresh_app hb11).2.2]
             exact subH_cons (fresh_app hb10)
           · simp only [marks_append, marksOf]
         · have hc' : ¬ 0 < x.key.cmp k := by omega
           rw [if_neg fun h => hc' h.2] at hp
           simp only [push_cast, seval, reduceCtorEq, hlt, f4, f5, fb, hxi, e1, hc']
           intro b10 hb10
           refine app_slot ho hb10 (by omega) fun v' N' ho' hf' => ?_
           simp only [push_cast, seval, reduceCtorEq, wrap_i64' (show -9223372036854775808 ≤ (i : Int) + 1 ∧ (i : Int) + 1 ≤ 9223372036854775807 by omega)]
           refine ⟨(i + 1, false, out ++ [x], v', N'), ⟨hlt, ho', freshN_cons hf', by rw [List.append_assoc]; exact hp⟩, by dsimp only; omega, ⟨rfl, rfl, rfl⟩, subH_pre (subH_cons (fresh_app hb10)) _, ?_⟩
           simp only [marks_append, marksOf]
   · have e2 : ¬ i < l.length := by omega
     rw [List.drop_of_length_le hge] at hp
     cases d with
     | true =>
       simp only [push_cast, seval, reduceCtorEq, e2]
       refine ⟨No, (by rw [dropM_eq (by simp only [marks_append, marksOf, ho.wr.2, hm, List.append_nil])]; exact List.sublist_append_left _ _), ?_⟩
       rw [← hp]
       simpa [putR] using ho
     | false =>
       simp only [push_cast, seval, reduceCtorEq, e2, f4, f5]
       intro b10 hb10
       refine app_slot (x := ⟨k, w⟩) ho hb10 (by omega) fun v' N' ho' hf' => ?_
       simp only [push_cast, seval, reduceCtorEq]
       refine ⟨N', (by rw [dropM_eq (by simp only [marks_append, marksOf, ho'.wr.2, hm, List.append_nil])]; exact List.sublist_append_left _ _), ?_⟩
       rw [← hp]
       exact ho'
theorem refMerge_ok {Hf : Hp} {l m : List Sl} {v u : Value} (hm : marksOf Hf = []) (h1 : SlR Hf l v) (h2 : SlR Hf m u) (hn : l.length ≤ 2199023255551) (hn2 : m.length ≤ 2199023255551) (hd : derE Hf Hf) :
  CallsV Tryz.prog 70 [v, u] Hf (OutE 67 (mergeR l m)) := by
 obtain ⟨q1, c1, rfl, _⟩ := id h1
 obtain ⟨q2, c2, rfl, _⟩ := id h2
 obtain ⟨L, l1, l2⟩ := h1.h
 obtain ⟨M, m1, m2⟩ := h2.h
 refine callsO gB_ok Tryz.mix Tryz.pl70 Tryz.func70 rfl Tryz.ntmps70 Tryz.results70 rfl (by first | rfl | assumption) (Nat.le_of_ble_eq_true rfl) (by kernel_rfl) ?_
 simp only [push_cast, seval, reduceCtorEq]
 refine (refRight_ok l1 (by omega)).pure l2 ?_
 simp only [push_cast, seval, reduceCtorEq]
 cases hr : rightB l with
 | false =>
   simp only [push_cast, seval, reduceCtorEq]
   exact ⟨[], List.nil_sublist _, _, by simp [mergeR, hr], .inl ⟨by simp [mergeR, hr], rfl, rfl⟩⟩
 | true =>
 simp only [push_cast, seval, reduceCtorEq]
 refine (refPatch_ok m1 (by omega)).pure m2 ?_
 simp only [push_cast, seval, reduceCtorEq]
 cases hp : patchB m with
 | false =>
   simp only [push_cast, seval, reduceCtorEq]
   exact ⟨[], List.nil_sublist _, _, by simp [mergeR, hr, hp], .inl ⟨by simp [mergeR, hr, hp], rfl, rfl⟩⟩
 | true =>
 have ln1 := rightB_len hr
 have ln2 := patchB_len hp
 have rl := rightB_iff.1 hr
 have sm := (patchB_iff.1 hp).2
 have hsrc : srcL Tryz.prog Hf 29 (.slice q1 l.length c1) 8 = some (slC l, l.length) := slR_src h1
 simp only [push_cast, seval, reduceCtorEq, hsrc]
 refine (fun rest => ?main : ((T : Tm) → (H : Hp) → (∃ vo No, OutS 67 l vo No ∧ freshN No Hf ∧ subT T [(1, .slice q2 m.length c2), (6, vo), (7, .int .i64 0)] ∧ subH H (No ++ Hf) ∧ marksOf H = []) → WpV Tryz.prog none 40 (.loop ?c) ?K T H) → _) ?rest
 case main =>
  refine ⟨fun h0 => ?_, fun h0 => ⟨by unfold two47; omega, fun b c' hb hc' => ?_⟩⟩
  · refine rest _ _ ?_
    refine ⟨_, [], .inl ⟨List.length_eq_zero_iff.1 h0, rfl, rfl⟩, trivial, ?_, subH_self _, hm⟩
    simp only [push_cast, seval, reduceCtorEq]
  · refine rest _ _ ?_
    refine ⟨_, [_], .inr ⟨b, c', List.length_pos_iff.1 h0, rfl, hc', rfl⟩, ⟨hb, trivial⟩, ?_, subH_self _, hm⟩
    simp only [push_cast, seval, reduceCtorEq]
 case rest =>
  rintro T H ⟨vo, No, ho, hf, hT, hH, hmH⟩
  refine loopO gB_ok (pl := Tryz.pl70) Tryz.mix (X := Nat × Value × Hp)
   (fun s => ([(1, .slice q2 m.length c2), (6, s.2.1), (7, .int .i64 s.1)], s.2.2 ++ Hf))
   (fun s => s.1 ≤ m.length ∧ OutS 67 (putsR l (m.take s.1)) s.2.1 s.2.2 ∧ freshN s.2.2 Hf) (fun s => m.length - s.1) (0, vo, No) ?_ ?_ (by kernel_rfl) ?_
  · exact ⟨Nat.zero_le _, ho, hf⟩
  · exact ⟨hT, hH, by rw [hmH, marks_append, ho.wr.2, hm]; rfl⟩
  · rintro ⟨k, vo, No⟩ ⟨hk, ho, hf⟩
    dsimp only at hk ho hf ⊢
    clear hT hH hmH
    obtain ⟨iq1, iq2, iq3⟩ := putsL_ok rl.srt rl.noz k (m.take k) (by simp; omega)
    rw [← putsR_eq rl.srt rl.noz k (m.take k) (by simp; omega)] at iq1 iq2 iq3
    rcases Nat.lt_or_ge k m.length with hlt | hge
    · obtain ⟨x, hx⟩ : ∃ x, m[k]? = some x := ⟨m[k], List.getElem?_eq_getElem hlt⟩
      have tq : m.take (k + 1) = m.take k ++ [x] := by rw [List.take_add_one, hx]; rfl
      obtain ⟨b2, o2, c2', hc⟩ := h2.lies hlt
      cases hc
      obtain ⟨e2, he2, hg2⟩ := h2.here (by rintro rfl; cases hlt)
      have hxk := hg2 k x hx
      have fb : findE (No ++ Hf) b2 = some e2 := by rw [findE_freshN hf he2]; exact he2
      simp only [push_cast, seval, reduceCtorEq, hlt, fb, hxk]
      obtain ⟨Ho, ho1, ho2⟩ := (ho.r (H := Hf)).h
      refine (refput_ok ho1 (by omega)).use ho2 ?_
      intro v' N' ho'
      refine ⟨ho'.wr.1, ho'.wr.2, fun hf' => ?_⟩
      have hsub := subH_new (No ++ Hf) N' fun e he x hx => freshN_ne hf' e he x hx
      simp only [push_cast, seval, reduceCtorEq, hsub, wrap_i64' (show -9223372036854775808 ≤ (k : Int) + 1 ∧ (k : Int) + 1 ≤ 9223372036854775807 by omega)]
      refine ⟨(k + 1, v', N'), ⟨hlt, by rw [tq, putsR_succ]; exact ho', freshN_app hf'⟩, by dsimp only; omega, ⟨rfl, rfl⟩, subH_pre (subH_new Hf No fun e he x hx => freshN_ne hf e he x hx) _, ?_⟩
      simp only [marks_append, marksOf, ho.wr.2, ho'.wr.2, List.nil_append]
    · have e2 : ¬ k < m.length := by omega
      obtain ⟨p, c, rfl⟩ := ho.c.slice
      rw [List.take_of_length_le hge, putsR_eq rl.srt rl.noz m.length m rfl, puts_merge rl sm] at ho iq3
      rw [List.take_of_length_le hge, putsR_eq rl.srt rl.noz m.length m rfl, puts_merge rl sm]
      have hmr : mergeR l m = limR (mergeL l m) := by simp [mergeR, hr, hp]
      have hdm : dropM (No ++ Hf) = No ++ Hf := dropM_eq (by simp only [marks_append, marksOf, ho.wr.2, hm, List.append_nil])
      rcases Nat.lt_or_ge 1000 (mergeL l m).length with h | h
      · have h' : (1000 : Int) < ((mergeL l m).length : Int) := by omega
        simp only [push_cast, seval, reduceCtorEq, e2, h', hmr, limR, h]
        exact ⟨[], List.nil_sublist _, _, rfl, .inl ⟨rfl, rfl, rfl⟩⟩
      · have h' : ¬ (1000 : Int) < ((mergeL l m).length : Int) := by omega
        simp only [push_cast, seval, reduceCtorEq, e2, h', hmr, limR, Nat.not_lt.2 h, hdm]
        exact ⟨No, List.sublist_append_left _ _, _, rfl, ho⟩
end Go.Proofs.YtpcjmmdgopihcaaGreatDoor
namespace Go.Ev
end Go.Ev
namespace Go.Proofs.YtpcjmmdgopihcaaGreatDoor
open Go Go.Ev Go.Proofs
theorem refPut_ok {Hf : Hp} {l : List Sl} {v : Value} {k w : W} (hm : marksOf Hf = []) (h1 : SlR Hf l v) (hn : l.length ≤ 2199023255551) :
  CallsV Tryz.prog 51 [v, k.v, w.v] Hf (OutE 67 (mergeR l [⟨k, w⟩])) := by
 refine callsO gB_ok Tryz.mix Tryz.pl51 Tryz.func51 rfl Tryz.ntmps51 Tryz.results51 rfl (by first | rfl | assumption) (Nat.le_of_ble_eq_true rfl) (by kernel_rfl) ?_
 simp only [push_cast, seval, reduceCtorEq]
 intro b4 hb4 b5 hb5
 try simp only [push_cast, seval, reduceCtorEq, hb4, hb5]
 intro b12 hb12
 have x0 := Ext.cons (e := ⟨b4, 0, .cel 28, k.cells⟩) hm rfl hb4
 have x1 := Ext.cons (e := ⟨b5, 0, .cel 28, w.cells⟩) x0.marks rfl hb5
 have x2 := Ext.cons (e := ⟨b12, 0, .vec 67 8 1, Sl.cells ⟨k, w⟩⟩) x1.marks rfl hb12
 have s1 := x2.sl (x1.sl (x0.sl h1))
 have s2 : SlR (⟨b12, 0, .vec 67 8 1, Sl.cells ⟨k, w⟩⟩ :: ⟨b5, 0, .cel 28, w.cells⟩ :: ⟨b4, 0, .cel 28, k.cells⟩ :: Hf) [⟨k, w⟩] (.slice (some ⟨b12, 0, none⟩) 1 1) := .vec (by simp [slC_one]) rfl
 obtain ⟨Hx, d1, d2, d3, d4, d5⟩ := s1.two s2
 refine (refMerge_ok d3 d4 d5 hn (by simp) d2).use d1 ?_
 rintro _ N ⟨w', rfl, ho⟩
 refine ⟨ho.wr.1, ho.wr.2, fun hf => ?_⟩
 simp only [push_cast, seval, reduceCtorEq]
 refine ⟨N, (by rw [dropM_eq (by simp only [marks_append, marksOf, ho.wr.2, hm, List.append_nil])]; exact List.sublist_append_left _ _), _, rfl, ho⟩
end Go.Proofs.YtpcjmmdgopihcaaGreatDoor
namespace Go.Ev
open Go.RowKit
theorem drawO {P : Program} {G : Gam} (hG : GamOk P G) (hmix : P.follows .mixedOrders = true) {r : Option Nat} {n : Nat} {id : Nat} {ops : Array Oper} {K : Exit → Tm → Hp → Prop} {T : Tm} {H : Hp} (s : List (Nat × Nat)) (hp : (planS ops s || planOk ops s) = true) (h : oD P G n ops.toList (K .normal) s T H) : WpV P r n (.region id ops true) K T H :=
 drawV hG hmix _ (((Bool.or_eq_true _ _).mp hp).elim planS_ok fun hh => hh) (by rw [oD_eq] at h; exact h)
def backB (ops : Array Oper) : Bool := (List.range ops.size).all fun i => match ops[i]? with
 | some o => o.guard.isNone && o.after.all (fun e => !Region.binds .any e || decide (e.on < i))
 | none => true
theorem backB_spec {ops : Array Oper} (h : backB ops = true) {i : Nat} {o : Oper} (ho : ops[i]? = some o) : o.guard = none ∧ ∀ e ∈ o.after, Region.binds .any e = true → e.on < i := by
 have hi := (Array.getElem?_eq_some_iff.1 ho).1
 have := List.all_eq_true.1 h i (List.mem_range.2 hi)
 rw [ho] at this
 simp only [Bool.and_eq_true] at this
 refine ⟨by simpa using this.1, fun e he hb => ?_⟩
 have h2 := Array.all_eq_true_iff_forall_mem.1 this.2 e he
 rw [hb] at h2
 simpa using h2
def ApartE (H : Hp) : Prop := H.Pairwise fun e f => (e.wr ∨ f.wr) → e.blk ≠ f.blk
theorem drawI {P : Program} {r : Option Nat} {n : Nat} {G : Gam} (hG : GamOk P G) (hmix : P.follows .mixedOrders = true) {id : Nat} {ops : Array Oper} {K : Exit → Tm → Hp → Prop} {T : Tm} {H : Hp} (inv : (Nat → Bool) → Tm → Hp → Prop) (hb : backB ops = true) (h0 : inv (fun _ => false) T H)
  (step : ∀ (l : Nat → Bool) (T' : Tm) (H' : Hp) (i : Nat) (o : Oper), ApartE H' → inv l T' H' → ops[i]? = some o → l i = false → (∀ e ∈ o.after, Region.binds .any e = true → l e.on = true) → ∃ (H0 : Hp) (Kp : Value → Hp → Prop), H'.Perm H0 ∧ marksOf H0 = marksOf H' ∧ evOp P G T' H0 o.op Kp ∧ ∀ v H'', Kp v H'' → inv (fun j => j == i || l j) (putT n T' o.dst v) H'')
  (fin : ∀ (l : Nat → Bool) (T' : Tm) (H' : Hp), (∀ i, i < ops.size → l i = true) → ApartE H' → inv l T' H' → ∃ H0 T0, H'.Perm H0 ∧ marksOf H0 = marksOf H' ∧ subT T' T0 ∧ K .normal T0 H0) : WpV P r n (.region id ops true) K T H := by
 intro w0 mu a w hr ht hs hd
 have finw : ∀ (l : Nat → Bool) (T' : Tm) (H' : Hp) (a' : Act) (w' : World), (∀ i, i < ops.size → l i = true) → TRel n T' a' → Sat w0 mu H' w' → marksOf H' = marksOf H → a'.defers = defersOf H → inv l T' H' → ∃ T H', K .normal T H' ∧ TRel n T a' ∧ Sat w0 mu H' w' ∧ a'.defers = defersOf H' := by
  intro l T' H' a' w' hall ht' hs' hm' hd' hi'
  obtain ⟨H0, T0, h1, h2, h3, h4⟩ := fin l T' H' hall hs'.apart hi'
  exact ⟨T0, H0, h4, ht'.sub h3, hs'.perm h1, by rw [hd', defersOf, defersOf, h2, hm']⟩
 have key : ∀ (f : Nat) (listed : Array Bool) (l : Nat → Bool) (T' : Tm) (H' : Hp) (a' : Act) (w' : World), listed.size = ops.size → (∀ j, j < ops.size → listed[j]? = some (l j)) → ((List.range ops.size).filter fun j => !l j).length ≤ f → TRel n T' a' → Sat w0 mu H' w' → marksOf H' = marksOf H → a'.defers = defersOf H → inv l T' H' →
   wpAnyIn (Fr r) 0 P .any ops (fun e a w => e = .normal ∧ ∃ T H', K .normal T H' ∧ TRel n T a ∧ Sat w0 mu H' w ∧ a.defers = defersOf H') f listed a' w' := by
  have done : ∀ (listed : Array Bool) (l : Nat → Bool), listed.size = ops.size → (∀ j, j < ops.size → listed[j]? = some (l j)) → Region.ready .any ops listed = [] → ∀ i, i < ops.size → l i = true := by
   intro listed l hsz hl hrd i
   induction i using Nat.strongRecOn with
   | _ i ih =>
     intro hi
     cases hli : l i with
     | true => rfl
     | false =>
       have ho : ops[i]? = some ops[i] := Array.getElem?_eq_getElem hi
       have hmem : i ∈ Region.ready .any ops listed := by
        rw [mem_ready]
        refine ⟨by rw [Array.getD_eq_getD_getElem?, hl i hi, hli]; rfl, _, ho, fun e he hbb => ?_⟩
        have hlt := (backB_spec hb ho).2 e he hbb
        rw [Array.getD_eq_getD_getElem?, hl e.on (by omega), ih e.on hlt (by omega)]; rfl
       rw [hrd] at hmem; cases hmem
  intro f
  induction f with
  | zero =>
    intro listed l T' H' a' w' hsz hl hn ht' hs' hm' hd' hi'
    have hall : ∀ i, i < ops.size → l i = true := fun i hi => by
     cases hli : l i with
     | true => rfl
     | false =>
       have : i ∈ (List.range ops.size).filter fun j => !l j := List.mem_filter.2 ⟨List.mem_range.2 hi, by simp [hli]⟩
       rw [List.length_eq_zero_iff.1 (Nat.le_zero.1 hn)] at this; cases this
    refine ⟨?_, rfl, finw l T' H' a' w' hall ht' hs' hm' hd' hi'⟩
    rw [List.eq_nil_iff_forall_not_mem]
    intro i hmem
    obtain ⟨h1, o, ho, _⟩ := mem_ready.1 hmem
    have hi := (Array.getElem?_eq_some_iff.1 ho).1
    rw [Array.getD_eq_getD_getElem?, hl i hi, hall i hi] at h1
    cases h1
  | succ f ih =>
    intro listed l T' H' a' w' hsz hl hn ht' hs' hm' hd' hi'
    refine ⟨fun h => ⟨rfl, finw l T' H' a' w' (done listed l hsz hl h) ht' hs' hm' hd' hi'⟩, fun i hmem => ?_⟩
    obtain ⟨h1, o, ho, hdeps⟩ := mem_ready.1 hmem
    have hi := (Array.getElem?_eq_some_iff.1 ho).1
    have hli : l i = false := by rw [Array.getD_eq_getD_getElem?, hl i hi] at h1; exact h1
    obtain ⟨hg, hlt⟩ := backB_spec hb ho
    obtain ⟨H0, Kp, hp0, hm0, hst, hkp⟩ := step l T' H' i o hs'.apart hi' ho hli fun e he hbb => by
     have := hdeps e he hbb
     rw [Array.getD_eq_getD_getElem?, hl e.on (by have := hlt e he hbb; omega)] at this
     exact this
    have hw : Region.wanted o (yielded ops a'.tmps) = true := by
     rcases gd_ok (ops := ops) (o := o) (A := True) (B := False) ht' (by rw [hg]; trivial) with ⟨h, _⟩ | ⟨_, h⟩
     · exact h
     · exact h.elim
    unfold wpOpIn
    rw [ho]
    dsimp only
    rw [if_pos hw]
    refine evOp_ok hG ht' (hs'.perm hp0) hst ?_
    intro v H'' w'' hi3 hs'' hm''
    replace hi3 := hkp v H'' hi3
    refine ih _ (fun j => j == i || l j) _ H'' _ w'' (by simpa using hsz) (fun j hj => ?_) ?_ (ht'.put o.dst v) hs'' (hm''.trans (hm0.trans hm')) ?_ hi3
    · rw [Array.getElem?_setIfInBounds]
      by_cases hji : i = j
      · subst hji; rw [if_pos rfl, if_pos (by omega)]; simp
      · rw [if_neg hji, hl j hj]; simp [Ne.symm hji]
    · have : ((List.range ops.size).filter fun j => !(j == i || l j)).length < ((List.range ops.size).filter fun j => !l j).length := by
       have hsl : ((List.range ops.size).filter fun j => !(j == i || l j)) = ((List.range ops.size).filter fun j => !l j).filter fun j => !(j == i) := by
        rw [List.filter_filter]
        congr 1
        funext j
        simp
       rw [hsl]
       refine List.length_filter_lt_length_iff_exists.2 ⟨i, List.mem_filter.2 ⟨List.mem_range.2 hi, by simp [hli]⟩, by simp⟩
      omega
    · cases o.dst <;> exact hd'
 have hA := key ops.size (Array.replicate ops.size false) (fun _ => false) T H a _ (by simp) (fun j hj => by simp [hj]) (Nat.le_trans (List.length_filter_le _ _) (by simp)) ht hs.drew rfl hd h0
 refine wpIn_mono (wpIn_region_any hmix hA) ?_
 rintro e a' w' ⟨rfl, T', H', hk⟩
 exact ⟨T', H', hk⟩
theorem getT_put {n k : Nat} (hk : k < n) (T : Tm) (v : Value) (j : Nat) : getT (putT n T (some k) v) j = if j = k then some v else getT T j := by
 simp only [putT, if_pos hk, getT]
def upd {α : Type} (f : Nat → α) (i : Nat) (a : α) : Nat → α := fun j => if j = i then a else f j
theorem upd_self {α : Type} (f : Nat → α) (i : Nat) (a : α) : upd f i a i = a := by simp [upd]
theorem upd_ne {α : Type} {f : Nat → α} {i j : Nat} {a : α} (h : j ≠ i) : upd f i a j = f j := by simp [upd, h]
def dstB (n : Nat) (ops : Array Oper) : Bool := (List.range ops.size).all fun i => match ops[i]? with
 | some o => match o.dst with
   | some s => decide (s < n) && (List.range ops.size).all fun j => i == j || !((ops[j]?).any fun p => p.dst == some s)
   | none => true
 | none => true
theorem dstB_spec {n : Nat} {ops : Array Oper} (h : dstB n ops = true) {i : Nat} {o : Oper} {s : Nat} (ho : ops[i]? = some o) (hs : o.dst = some s) : s < n ∧ ∀ j p, ops[j]? = some p → p.dst = some s → i = j := by
 have hi := (Array.getElem?_eq_some_iff.1 ho).1
 have := List.all_eq_true.1 h i (List.mem_range.2 hi)
 rw [ho] at this
 dsimp only at this
 rw [hs] at this
 simp only [Bool.and_eq_true, decide_eq_true_eq] at this
 refine ⟨this.1, fun j p hp hps => ?_⟩
 have h2 := List.all_eq_true.1 this.2 j (List.mem_range.2 (Array.getElem?_eq_some_iff.1 hp).1)
 rw [hp] at h2
 simpa [hps] using h2
theorem perm_part {α : Type} [DecidableEq α] {l m : List α} (hl : l.Nodup) (hm : m.Nodup) (h : ∀ x ∈ m, x ∈ l) : l.Perm (m ++ l.filter fun x => !m.contains x) := by
 refine (List.perm_ext_iff_of_nodup hl (List.nodup_append.2 ⟨hm, hl.sublist List.filter_sublist, fun a ha b hb he => ?_⟩)).2 fun x => ?_
 · subst he
   have := (List.mem_filter.1 hb).2
   simp [ha] at this
 · rw [List.mem_append, List.mem_filter]
   refine ⟨fun hx => ?_, fun hx => hx.elim (h x) (·.1)⟩
   by_cases hxm : x ∈ m
   · exact .inl hxm
   · exact .inr ⟨hx, by simp [hxm]⟩
def usedB (ops : Array Oper) (used : Nat → List Nat) : Bool := (List.range ops.size).all fun i => decide ((used i).Nodup) && (used i).all fun j => decide (j < i) && ((ops[i]?).any fun o => o.after.any fun e => Region.binds .any e && e.on == j) && (List.range ops.size).all fun k => k == i || !(used k).contains j
def freeB (ops : Array Oper) (used : Nat → List Nat) (i : Nat) : Bool := (List.range ops.size).all fun k => !(used k).contains i
theorem freshN_apart {A B : Hp} (h : ApartE (A ++ B)) (hw : allWr A) : freshN A B :=
 freshN_iff.2 fun e he x hx => ((List.pairwise_append.1 h).2.2 e he x hx (.inl (allWr_mem hw e he))).symm
theorem allWr_of {N : Hp} (h : ∀ e ∈ N, e.wr) : allWr N := by
 induction N with
 | nil => trivial
 | cons e r ih => exact ⟨h e (by simp), ih fun x hx => h x (by simp [hx])⟩
theorem marks_flat {mem : Nat → Hp} : ∀ {L : List Nat}, (∀ i ∈ L, marksOf (mem i) = []) → marksOf (L.flatMap mem) = []
 | [], _ => rfl
 | i :: r, h => by rw [List.flatMap_cons, marks_append, h i (by simp), marks_flat fun j hj => h j (by simp [hj])]; rfl
theorem flat_upd {mem : Nat → Hp} {i : Nat} {N : Hp} {L : List Nat} (h : i ∉ L) : L.flatMap (upd mem i N) = L.flatMap mem := by
 rw [List.flatMap_def, List.flatMap_def]
 congr 1
 exact List.map_congr_left fun j hj => upd_ne fun e => h (e ▸ hj)
theorem subT_of {T' : Tm} : ∀ {A : Tm}, (∀ k v, (k, v) ∈ A → getT T' k = some v) → subT T' A
 | [], _ => trivial
 | x :: _, h => ⟨h x.1 x.2 (by simp), subT_of fun k v hm => h k v (by simp [hm])⟩
theorem subT_mem {T' : Tm} {k : Nat} {v : Value} : ∀ {A : Tm}, subT T' A → (k, v) ∈ A → getT T' k = some v
 | [], _, hm => by cases hm
 | x :: _, h, hm => by
   rcases List.mem_cons.1 hm with rfl | hm
   · exact h.1
   · exact subT_mem h.2 hm
def dstsL (val : Nat → Value) (Tb : Tm) : List Oper → Nat → Tm
 | [], _ => Tb
 | o :: r, i => match o.dst with
   | some s => (s, val i) :: dstsL val Tb r (i + 1)
   | none => dstsL val Tb r (i + 1)
attribute [push_cast] dstsL
theorem dstsL_mem {val : Nat → Value} {Tb : Tm} {k : Nat} {u : Value} : ∀ {l : List Oper} {i : Nat}, (k, u) ∈ dstsL val Tb l i → (k, u) ∈ Tb ∨ ∃ j o, l[j]? = some o ∧ o.dst = some k ∧ u = val (i + j)
 | [], _, h => .inl h
 | o :: r, i, h => by
   have hrec : (k, u) ∈ dstsL val Tb r (i + 1) → (k, u) ∈ Tb ∨ ∃ j p, (o :: r)[j]? = some p ∧ p.dst = some k ∧ u = val (i + j) := fun h => by
    rcases dstsL_mem h with h | ⟨j, p, h1, h2, h3⟩
    · exact .inl h
    · exact .inr ⟨j + 1, p, by simpa using h1, h2, by rw [h3]; congr 1; omega⟩
   unfold dstsL at h
   split at h
   · rename_i s hs
     rcases List.mem_cons.1 h with h | h
     · injection h with h1 h2
       exact .inr ⟨0, o, rfl, by rw [hs, h1], h2⟩
     · exact hrec h
   · exact hrec h
theorem drawS {P : Program} {r : Option Nat} {n : Nat} {G : Gam} (hG : GamOk P G) (hmix : P.follows .mixedOrders = true) {id : Nat} {ops : Array Oper} {K : Exit → Tm → Hp → Prop} {T : Tm} {X : Hp} (Tb : Tm) (V : Nat → (Nat → Value) → Prop) (Q : Nat → (Nat → Value) → Hp → Prop) (used : Nat → List Nat) (F : List Nat)
  (hb : backB ops = true) (hd : dstB n ops = true) (hu : usedB ops used = true) (hTb : subT T Tb) (hTd : (Tb.all fun x => !(ops.toList.filterMap (·.dst)).contains x.1) = true)
  (hF : F.Nodup) (hFs : (F.all fun i => decide (i < ops.size) && freeB ops used i) = true) (hFn : ∀ i, i < ops.size → i ∉ F → (∀ val N, Q i val N → N = []) ∨ freeB ops used i = false)
  (stabV : ∀ i o, ops[i]? = some o → ∀ val val' : Nat → Value, val' i = val i → (∀ j, (o.after.any fun e => Region.binds .any e && e.on == j) = true → val' j = val j) → V i val → V i val')
  (stabQ : ∀ i o, ops[i]? = some o → ∀ (val val' : Nat → Value) (N : Hp), val' i = val i → (∀ j, (o.after.any fun e => Region.binds .any e && e.on == j) = true → val' j = val j) → Q i val N → Q i val' N)
  (hop : ∀ (i : Nat) (o : Oper), ops[i]? = some o → ∀ (T' : Tm) (Y : Hp) (val : Nat → Value) (mem : Nat → Hp), subT T' Tb → (∀ j, (o.after.any fun e => Region.binds .any e && e.on == j) = true → V j val ∧ ∀ s, (ops[j]?).bind (·.dst) = some s → getT T' s = some (val j)) → (∀ j ∈ used i, Q j val (mem j)) →
   freshN ((used i).flatMap mem) Y → (∀ b e, findE X b = some e → findE Y b = some e) → marksOf Y = marksOf X → ApartE Y → evOp P G T' ((used i).flatMap mem ++ Y) o.op (fun v H'' => ∃ N, H'' = N ++ Y ∧ allWr N ∧ marksOf N = [] ∧ V i (upd val i v) ∧ Q i (upd val i v) N))
  (fin : ∀ (val : Nat → Value) (mem : Nat → Hp), (∀ i, i < ops.size → V i val) → (∀ i ∈ F, Q i val (mem i)) → ApartE (F.flatMap mem ++ X) → allWr (F.flatMap mem) → K .normal (dstsL val Tb ops.toList 0) (F.flatMap mem ++ X)) : WpV P r n (.region id ops true) K T X := by
 have husd : ∀ {i : Nat}, i < ops.size → (used i).Nodup ∧ ∀ j ∈ used i, j < i ∧ (∃ o, ops[i]? = some o ∧ ∃ e ∈ o.after, Region.binds .any e = true ∧ e.on = j) ∧ ∀ k, k < ops.size → k ≠ i → j ∉ used k := by
  intro i hi
  have := List.all_eq_true.1 hu i (List.mem_range.2 hi)
  simp only [Bool.and_eq_true, decide_eq_true_eq, List.all_eq_true] at this
  refine ⟨this.1, fun j hj => ?_⟩
  obtain ⟨⟨h1, h2⟩, h3⟩ := this.2 j hj
  refine ⟨h1, ?_, fun k hk hki hmem => ?_⟩
  · cases ho : ops[i]? with
    | none => rw [ho] at h2; cases h2
    | some o =>
      rw [ho] at h2
      obtain ⟨e, he, heb⟩ := Array.any_eq_true'.1 h2
      simp only [Bool.and_eq_true, beq_iff_eq] at heb
      exact ⟨o, rfl, e, he, heb.1, heb.2⟩
  · have := h3 k (List.mem_range.2 hk)
    simp [hki, hmem] at this
 have hbase : ∀ {T' : Tm}, (∀ k v, (k, v) ∈ Tb → getT T' k = some v) → subT T' Tb := fun h => subT_of h
 have hbase' : ∀ {T' : Tm}, subT T' Tb → ∀ k v, (k, v) ∈ Tb → getT T' k = some v := fun h k v hm => subT_mem h hm
 refine drawI hG hmix (fun l T' H' => ∃ (val : Nat → Value) (mem : Nat → Hp) (ord : List Nat), ord.Nodup ∧ (∀ i ∈ ord, l i = true ∧ i < ops.size) ∧ (∀ i, l i = true → i < ops.size → i ∉ ord → ∃ j, j < ops.size ∧ l j = true ∧ i ∈ used j) ∧ (∀ i ∈ ord, ∀ j, j < ops.size → l j = true → i ∉ used j) ∧ H' = ord.flatMap mem ++ X ∧ (∀ i ∈ ord, allWr (mem i) ∧ marksOf (mem i) = []) ∧
  (∀ i o, ops[i]? = some o → l i = true → (∀ e ∈ o.after, Region.binds .any e = true → l e.on = true) ∧ V i val ∧ (i ∈ ord → Q i val (mem i)) ∧ ∀ s, o.dst = some s → getT T' s = some (val i)) ∧ subT T' Tb) hb ?_ ?_ ?_
 · exact ⟨fun _ => undef, fun _ => [], [], List.nodup_nil, by simp, by simp, by simp, rfl, by simp, by simp, hTb⟩
 · rintro l T' H' i o hap ⟨val, mem, ord, h1, h2, h3, h4, rfl, h6, h7, h8⟩ ho hli hdeps
   have hi := (Array.getElem?_eq_some_iff.1 ho).1
   obtain ⟨hun, hus⟩ := husd hi
   have hin : ∀ j ∈ used i, j ∈ ord := fun j hj => by
    obtain ⟨hji, ⟨o', ho', e, he, heb, rfl⟩, hk⟩ := hus j hj
    obtain rfl : o = o' := Option.some.inj (ho.symm.trans ho')
    have hlj := hdeps e he heb
    rcases Classical.em (e.on ∈ ord) with h | h
    · exact h
    · obtain ⟨k, hk1, hk2, hk3⟩ := h3 e.on hlj (by omega) h
      by_cases hki : k = i
      · rw [hki, hli] at hk2; cases hk2
      · exact absurd hk3 (hk k hk1 hki)
   obtain ⟨rest, hperm⟩ : ∃ rest, ord.Perm (used i ++ rest) := ⟨_, perm_part h1 hun hin⟩
   have hnd : (used i ++ rest).Nodup := hperm.nodup_iff.1 h1
   have hnr : rest.Nodup := (List.nodup_append.1 hnd).2.1
   have hio : i ∉ ord := fun h => by rw [(h2 i h).1] at hli; cases hli
   have hir : i ∉ rest := fun h => hio (hperm.mem_iff.2 (List.mem_append_right _ h))
   have hpm : (ord.flatMap mem ++ X).Perm ((used i).flatMap mem ++ (rest.flatMap mem ++ X)) := by
    rw [← List.append_assoc, ← List.flatMap_append]
    exact (hperm.flatMap_right mem).append_right X
   have hm1 : marksOf (ord.flatMap mem) = [] := marks_flat fun j hj => (h6 j hj).2
   have hm2 : marksOf ((used i).flatMap mem) = [] := marks_flat fun j hj => (h6 j (hin j hj)).2
   have hro : ∀ j ∈ rest, j ∈ ord := fun j hj => hperm.mem_iff.2 (List.mem_append_right _ hj)
   have hm3 : marksOf (rest.flatMap mem) = [] := marks_flat fun j hj => (h6 j (hro j hj)).2
   have hap' : ApartE ((used i).flatMap mem ++ (rest.flatMap mem ++ X)) := (hpm.pairwise_iff (fun {x y} hxy hw => (hxy hw.symm).symm)).1 hap
   have hwr : ∀ {L : List Nat}, (∀ j ∈ L, j ∈ ord) → allWr (L.flatMap mem) := fun {L} hL => allWr_of fun e he => by
    obtain ⟨j, hj, hej⟩ := List.mem_flatMap.1 he
    exact allWr_mem (h6 j (hL j hj)).1 e hej
   have hap2 : ApartE (rest.flatMap mem ++ X) := (List.pairwise_append.1 hap').2.1
   refine ⟨_, _, hpm, by simp only [marks_append, hm1, hm2, hm3, List.nil_append], hop i o ho T' (rest.flatMap mem ++ X) val mem h8 (fun j hj => ?_) (fun j hj => ?_) (freshN_apart hap' (hwr hin)) (fun b e hbe => ?_) (by rw [marks_append, hm3]; rfl) hap2, ?_⟩
   · obtain ⟨e, he, heb⟩ := Array.any_eq_true'.1 hj
     simp only [Bool.and_eq_true, beq_iff_eq] at heb
     obtain ⟨hbb, rfl⟩ := heb
     have hlt := (backB_spec hb ho).2 e he hbb
     have hp : ops[e.on]? = some ops[e.on] := Array.getElem?_eq_getElem (by omega)
     obtain ⟨_, g1, _, g2⟩ := h7 e.on _ hp (hdeps e he hbb)
     exact ⟨g1, fun s hs => g2 s (by rw [hp] at hs; exact hs)⟩
   · have hj2 := h2 j (hin j hj)
     exact (h7 j _ (Array.getElem?_eq_getElem hj2.2) hj2.1).2.2.1 (hin j hj)
   · rw [findE_freshN (freshN_apart hap2 (hwr hro)) hbe]; exact hbe
   · rintro v H'' ⟨N, rfl, hN1, hN2, hV, hQ⟩
     have hl' : ∀ j, l j = true → (j == i || l j) = true := fun j hj => by rw [hj, Bool.or_true]
     have hni : ∀ j, l j = true → j ≠ i := fun j hj h => by rw [h, hli] at hj; cases hj
     have hlr : ∀ j ∈ rest, l j = true := fun j hj => (h2 j (hro j hj)).1
     refine ⟨upd val i v, upd mem i N, i :: rest, List.nodup_cons.2 ⟨hir, hnr⟩, ?_, ?_, ?_, ?_, ?_, ?_, ?_⟩
     · intro j hj
       rcases List.mem_cons.1 hj with rfl | hj
       · exact ⟨by simp, hi⟩
       · exact ⟨hl' j (hlr j hj), (h2 j (hro j hj)).2⟩
     · intro j hj hjs hjo
       have hji : j ≠ i := fun h => hjo (h ▸ List.mem_cons_self ..)
       have hjl : l j = true := by simpa [hji] using hj
       rcases Classical.em (j ∈ ord) with h | h
       · rcases List.mem_append.1 (hperm.mem_iff.1 h) with h | h
         · exact ⟨i, hi, by simp, h⟩
         · exact absurd (List.mem_cons_of_mem _ h) hjo
       · obtain ⟨k, k1, k2, k3⟩ := h3 j hjl hjs h
         exact ⟨k, k1, hl' k k2, k3⟩
     · intro j hj k hk hkl hjk
       rcases List.mem_cons.1 hj with rfl | hjr
       · obtain ⟨hk1, ⟨o', ho', e, he, heb, hej⟩, -⟩ := (husd hk).2 j hjk
         have hkj : k ≠ j := by omega
         have hkl' : l k = true := by simpa [hkj] using hkl
         have := (h7 k o' ho' hkl').1 e he heb
         rw [hej, hli] at this; cases this
       · by_cases hki : k = i
         · subst hki
           exact (List.nodup_append.1 hnd).2.2 j hjk j hjr rfl
         · exact h4 j (hro j hjr) k hk (by simpa [hki] using hkl) hjk
     · rw [List.flatMap_cons, upd_self, flat_upd hir, List.append_assoc]
     · intro j hj
       rcases List.mem_cons.1 hj with rfl | hj
       · rw [upd_self]; exact ⟨hN1, hN2⟩
       · rw [upd_ne (hni j (hlr j hj))]; exact h6 j (hro j hj)
     · intro j p hp hj
       by_cases hji : j = i
       · subst hji
         obtain rfl : o = p := Option.some.inj (ho.symm.trans hp)
         refine ⟨fun e he hbb => hl' _ (hdeps e he hbb), hV, fun _ => by rw [upd_self]; exact hQ, fun s hs => ?_⟩
         rw [hs, getT_put (dstB_spec hd ho hs).1, if_pos rfl, upd_self]
       · have hjl : l j = true := by simpa [hji] using hj
         obtain ⟨g1, g2, g3, g4⟩ := h7 j p hp hjl
         have hv : upd val i v j = val j := upd_ne hji
         have hve : ∀ k, (p.after.any fun e => Region.binds .any e && e.on == k) = true → upd val i v k = val k := fun k hk => by
          obtain ⟨e, he, heb⟩ := Array.any_eq_true'.1 hk
          simp only [Bool.and_eq_true, beq_iff_eq] at heb
          obtain ⟨hbb, rfl⟩ := heb
          exact upd_ne (hni _ (g1 e he hbb))
         refine ⟨fun e he hbb => hl' _ (g1 e he hbb), stabV j p hp val _ hv hve g2, fun hjo => ?_, fun s hs => ?_⟩
         · have hjr : j ∈ rest := (List.mem_cons.1 hjo).resolve_left hji
           rw [upd_ne hji]
           exact stabQ j p hp val _ _ hv hve (g3 (hro j hjr))
         · rw [hv]
           cases hod : o.dst with
           | none => exact g4 s hs
           | some s' =>
             rw [getT_put (dstB_spec hd ho hod).1, if_neg (fun hss => hji ((dstB_spec hd hp hs).2 i o ho (by rw [hod, hss])))]
             exact g4 s hs
     · refine hbase fun k u hm => ?_
       have h9 := hbase' h8 k u hm
       cases hod : o.dst with
       | none => exact h9
       | some s' =>
         rw [getT_put (dstB_spec hd ho hod).1, if_neg (fun hks => ?_)]
         · exact h9
         · have := List.all_eq_true.1 hTd (k, u) hm
           simp only [Bool.not_eq_true', List.contains_eq_mem, decide_eq_false_iff_not] at this
           exact this (List.mem_filterMap.2 ⟨o, List.mem_of_getElem? (by simpa using ho), by rw [hod, hks]⟩)
 · rintro l T' H' hall hap ⟨val, mem, ord, h1, h2, h3, h4, rfl, h6, h7, h8⟩
   have hFs' : ∀ i ∈ F, i < ops.size ∧ freeB ops used i = true := fun i hi => by
    have := List.all_eq_true.1 hFs i hi
    simpa using this
   have hFo : ∀ i ∈ F, i ∈ ord := fun i hi => by
    obtain ⟨k1, k2⟩ := hFs' i hi
    rcases Classical.em (i ∈ ord) with h | h
    · exact h
    · obtain ⟨k, k3, k4, k5⟩ := h3 i (hall i k1) k1 h
      have := List.all_eq_true.1 k2 k (List.mem_range.2 k3)
      simp [k5] at this
   have hperm := perm_part h1 hF hFo
   have hnil : (ord.filter fun x => !F.contains x).flatMap mem = [] := by
    rw [List.flatMap_eq_nil_iff]
    intro i hi
    obtain ⟨hio, hiF⟩ := List.mem_filter.1 hi
    have hiF' : i ∉ F := by simpa using hiF
    have hsz := (h2 i hio).2
    rcases hFn i hsz hiF' with h | h
    · exact h val _ ((h7 i _ (Array.getElem?_eq_getElem hsz) (hall i hsz)).2.2.1 hio)
    · have : freeB ops used i = true := List.all_eq_true.2 fun k hk => by
       have := h4 i hio k (List.mem_range.1 hk) (hall k (List.mem_range.1 hk))
       simpa using this
      rw [this] at h; cases h
   have hpm : (ord.flatMap mem ++ X).Perm (F.flatMap mem ++ X) := by
    have := (hperm.flatMap_right mem).append_right X
    rw [List.flatMap_append, hnil, List.append_nil] at this
    exact this
   have hm1 : marksOf (ord.flatMap mem) = [] := marks_flat fun j hj => (h6 j hj).2
   have hm2 : marksOf (F.flatMap mem) = [] := marks_flat fun j hj => (h6 j (hFo j hj)).2
   refine ⟨_, _, hpm, by simp only [marks_append, hm1, hm2], ?_, fin val mem (fun i hi => (h7 i _ (Array.getElem?_eq_getElem hi) (hall i hi)).2.1) (fun i hi => (h7 i _ (Array.getElem?_eq_getElem (hFs' i hi).1) (hall i (hFs' i hi).1)).2.2.1 (hFo i hi)) ((hpm.pairwise_iff (fun {x y} hxy hw => (hxy hw.symm).symm)).1 hap) (allWr_of fun e he => ?_)⟩
   · refine subT_of fun k u hm => ?_
     rcases dstsL_mem hm with hm | ⟨j, o, hj, hs, rfl⟩
     · exact hbase' h8 k u hm
     · have ho : ops[j]? = some o := by simpa using hj
       have hi := (Array.getElem?_eq_some_iff.1 ho).1
       rw [Nat.zero_add]
       exact (h7 j o ho (hall j hi)).2.2.2 k hs
   · obtain ⟨j, hj, hej⟩ := List.mem_flatMap.1 he
     exact allWr_mem (h6 j (hFo j hj)).1 e hej
end Go.Ev
namespace Go.Ev
theorem byteV_lenA (l : List UInt8) : (byteV l).length = l.length := by simp [byteV]
theorem byteV_allA (l : List UInt8) : (byteV l).all oneC = true := by
 unfold byteV
 rw [List.all_map]
 exact List.all_eq_true.2 fun _ _ => rfl
structure Ad where
 l : List UInt8
 hl : l.length = 20
theorem Ad.ext {x y : Ad} (h : x.l = y.l) : x = y := by cases x; cases y; cases h; rfl
instance : DecidableEq Ad := fun x y => if h : x.l = y.l then .isTrue (Ad.ext h) else .isFalse fun e => h (by rw [e])
def Ad.cells (x : Ad) : List Value := byteV x.l
def Ad.v (x : Ad) : Value := .agg x.cells.toArray
theorem Ad.len (x : Ad) : x.cells.length = 20 := by unfold Ad.cells; rw [byteV_lenA, x.hl]
theorem Ad.all1 (x : Ad) : x.cells.all oneC = true := byteV_allA _
def Ad.zero : Ad := ⟨List.replicate 20 0, by decide⟩
noncomputable def Ad.num (x : Ad) : Nat := x.l.foldl (fun n b => 256 * n + b.toNat) 0
structure Ac where
 at_ : Ad
 bal : W
 nonce : Int
 code : ByteArray
 slots : List Sl
instance : DecidableEq Ac := fun x y => if h : x.at_ = y.at_ ∧ x.bal = y.bal ∧ x.nonce = y.nonce ∧ x.code = y.code ∧ x.slots = y.slots then .isTrue (by cases x; cases y; obtain ⟨h1, h2, h3, h4, h5⟩ := h; cases h1; cases h2; cases h3; cases h4; cases h5; rfl) else .isFalse fun e => h (by rw [e]; exact ⟨rfl, rfl, rfl, rfl, rfl⟩)
def Ac.cells (x : Ac) (sv : Value) : List Value := x.at_.cells ++ (x.bal.cells ++ [.int .i64 x.nonce, .string x.code, sv])
def acC (x : Ac × Value) : List Value := x.1.cells x.2
theorem acC_len (x : Ac × Value) : (acC x).length = 27 := by
 unfold acC Ac.cells
 rw [List.length_append, Ad.len]; rfl
def AcR (x : Ac) : Value → Hp → Prop := fun v H => ∃ sv, v = .agg (x.cells sv).toArray ∧ LiR Sl.cells 8 H x.slots sv
def StR (s : List Ac) : Value → Hp → Prop := fun v H => ∃ L : List (Ac × Value), L.map (·.1) = s ∧ LiR acC 27 H L v ∧ ∀ x ∈ L, LiR Sl.cells 8 H x.1.slots x.2
structure Ch where
 kind : Int
 at_ : Ad
 key : W
 val : W
 nonce : Int
 code : ByteArray
instance : DecidableEq Ch := fun x y => if h : x.kind = y.kind ∧ x.at_ = y.at_ ∧ x.key = y.key ∧ x.val = y.val ∧ x.nonce = y.nonce ∧ x.code = y.code then .isTrue (by cases x; cases y; obtain ⟨h1, h2, h3, h4, h5, h6⟩ := h; cases h1; cases h2; cases h3; cases h4; cases h5; cases h6; rfl) else .isFalse fun e => h (by rw [e]; exact ⟨rfl, rfl, rfl, rfl, rfl, rfl⟩)
def Ch.cells (x : Ch) : List Value := .int .i64 x.kind :: (x.at_.cells ++ (x.key.cells ++ (x.val.cells ++ [.int .i64 x.nonce, .string x.code])))
def Ch.v (x : Ch) : Value := .agg x.cells.toArray
theorem Ch.len (x : Ch) : x.cells.length = 31 := by
 unfold Ch.cells
 rw [List.length_cons, List.length_append, Ad.len]; rfl
structure Jo where
 state : List Ac
 undo : List Ch
 marks : List Int
section
variable {H H' : Hp} {v : Value}
theorem AcR.rd (x : Ac) : RdOnly (AcR x) := by
 rintro v A B h ⟨sv, rfl, h1⟩
 exact ⟨sv, rfl, h1.congr h⟩
theorem StR.ext {s : List Ac} (h : Ext H H') (hx : StR s v H) : StR s v H' := by
 obtain ⟨L, rfl, h1, h2⟩ := hx
 exact ⟨L, rfl, h1.ext h, fun x hx => (h2 x hx).ext h⟩
theorem StR.slice {s : List Ac} (hx : StR s v H) : ∃ p k, v = .slice p s.length k := by
 obtain ⟨L, h1, ⟨p, k, h2, -⟩, -⟩ := hx
 exact ⟨p, k, by rw [h2, ← h1, List.length_map]⟩
theorem StR.rd (s : List Ac) : RdOnly (StR s) := by
 rintro v A B h ⟨L, rfl, h1, h2⟩
 exact ⟨L, rfl, h1.congr h, fun x hx => (h2 x hx).congr h⟩
theorem StR.nil (H : Hp) (k : Nat) : StR [] (.slice none 0 k) H := ⟨[], rfl, LiR.nil _ _, fun x hx => by cases hx⟩
end
end Go.Ev
namespace Go.Ev
def PutQ (r : List Sl × Int) : Value → Hp → Prop := fun v H => ∃ w, v = .tuple #[w, .int .i64 r.2] ∧ LiR Sl.cells 8 H r.1 w
theorem PutQ.rd (r : List Sl × Int) : RdOnly (PutQ r) := by
 rintro v A B h ⟨w, rfl, h1⟩
 exact ⟨w, rfl, h1.congr h⟩
end Go.Ev
namespace Go.Proofs.YtpcjmmdgopihcaaGreatDoor
open Go Go.Ev Go.Proofs
theorem outE_newK {M0 : Hp} {e : Nat} {r : List Sl × Int} {v : Value} {N : Hp} (h : OutE e r v N) : NewK M0 (PutQ r) v N := by
 obtain ⟨w, rfl, h⟩ := h
 exact ⟨h.wr.1, h.wr.2, fun _ => ⟨w, rfl, h.r⟩⟩
section
variable {M : Hp} {l m : List Sl} {v u : Value} {k w : W}
theorem put_R (hl : LiR Sl.cells 8 M l v) : CallsR Tryz.prog 69 [v, k.v, w.v] M (PutQ (mergeR l [⟨k, w⟩])) :=
 fun _ hr he => CallsV.toK (put_ok hr.der hr.marks (hl.congr he.symm)) fun _ _ h => outE_newK h
theorem refPut_R (hl : LiR Sl.cells 8 M l v) (hn : l.length ≤ 2199023255551) : CallsR Tryz.prog 51 [v, k.v, w.v] M (PutQ (mergeR l [⟨k, w⟩])) :=
 fun _ hr he => CallsV.toK (refPut_ok hr.marks (hl.congr he.symm) hn) fun _ _ h => outE_newK h
theorem get_R (hl : LiR Sl.cells 8 M l v) (hn : l.length ≤ 2199023255551) : ∀ M0, roM M0 → cellsAt M0 = cellsAt M → CallsV Tryz.prog 68 [v, k.v] M0 (Ret0 (getW l k).v) := fun _ hr he => by
 obtain ⟨Hf, h1, h2⟩ := SlR.h (hl.congr he.symm)
 exact (get_ok h1 hn).ret0 h2 hr.marks
theorem refGet_R (hl : LiR Sl.cells 8 M l v) (hn : l.length ≤ 2199023255551) : ∀ M0, roM M0 → cellsAt M0 = cellsAt M → CallsV Tryz.prog 50 [v, k.v] M0 (Ret0 (getW l k).v) := fun _ hr he => by
 obtain ⟨Hf, h1, h2⟩ := SlR.h (hl.congr he.symm)
 exact (refGet_ok h1 hn).ret0 h2 hr.marks
theorem right_R (hl : LiR Sl.cells 8 M l v) : ∀ M0, roM M0 → cellsAt M0 = cellsAt M → CallsV Tryz.prog 62 [v] M0 (Ret0 (.bool (rightB l))) := fun _ hr he => by
 obtain ⟨Hf, h1, h2⟩ := SlR.h (hl.congr he.symm)
 exact (right_ok h1).ret0 h2 hr.marks
theorem refRight_R (hl : LiR Sl.cells 8 M l v) (hn : l.length ≤ 2199023255551) : ∀ M0, roM M0 → cellsAt M0 = cellsAt M → CallsV Tryz.prog 64 [v] M0 (Ret0 (.bool (rightB l))) := fun _ hr he => by
 obtain ⟨Hf, h1, h2⟩ := SlR.h (hl.congr he.symm)
 exact (refRight_ok h1 hn).ret0 h2 hr.marks
theorem refSame_R (hl : LiR Sl.cells 8 M l v) (hu : LiR Sl.cells 8 M m u) (hn : l.length ≤ 2199023255551) (hn2 : m.length ≤ 2199023255551) : ∀ M0, roM M0 → cellsAt M0 = cellsAt M → CallsV Tryz.prog 38 [v, u] M0 (Ret0 (.bool (decide (l = m)))) :=
 fun _ hr he => same_ok hr.marks (hl.congr he.symm) (hu.congr he.symm) hn hn2
end
end Go.Proofs.YtpcjmmdgopihcaaGreatDoor
