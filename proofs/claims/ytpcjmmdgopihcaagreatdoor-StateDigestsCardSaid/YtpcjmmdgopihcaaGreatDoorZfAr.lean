/- Texts of this claim, merged by program: Vd Ve Vi Vj Ik Il Im. -/
import Derived.Test.YtpcjmmdgopihcaaGreatDoorZfAm
import Derived.Test.YtpcjmmdgopihcaaGreatDoorZfAq
set_option linter.unusedSimpArgs false
set_option linter.unusedVariables false
namespace Go.Ev
structure R5 where
  a : Int
  b : Int
  c : Int
  d : Int
  e : Int
def R5.cells (r : R5) : List Value := [.int .i64 r.a, .int .i64 r.b, .int .i64 r.c, .int .i64 r.d, .int .i64 r.e]
def R5.v (r : R5) : Value := .agg #[.int .i64 r.a, .int .i64 r.b, .int .i64 r.c, .int .i64 r.d, .int .i64 r.e]
def R5.In (r : R5) : Prop := i64In r.a ∧ i64In r.b ∧ i64In r.c ∧ i64In r.d ∧ i64In r.e
def R5.ch (r : R5) : R4 := ⟨r.b, r.c, r.d, r.e⟩
end Go.Ev
namespace Go.Proofs.YtpcjmmdgopihcaaGreatDoor
open Go Go.Ev Go.Proofs
set_option maxRecDepth 100000
set_option maxHeartbeats 4000000
end Go.Proofs.YtpcjmmdgopihcaaGreatDoor
set_option linter.unusedSimpArgs false
set_option linter.unusedVariables false
namespace Go.Proofs.YtpcjmmdgopihcaaGreatDoor
open Go Go.Ev Go.Proofs
set_option maxRecDepth 100000
set_option maxHeartbeats 4000000
end Go.Proofs.YtpcjmmdgopihcaaGreatDoor
set_option linter.unusedSimpArgs false
set_option linter.unusedVariables false
namespace Go.Ev
end Go.Ev
set_option linter.unusedSimpArgs false
set_option linter.unusedVariables false
namespace Go.Ev
theorem nodup_subN {α : Type} [DecidableEq α] : ∀ {l m : List α}, l.Nodup → (∀ x ∈ l, x ∈ m) → l.length ≤ m.length
  | [], _, _, _ => Nat.zero_le _
  | x :: r, m, h, hs => by
    obtain ⟨h1, h2⟩ := List.nodup_cons.1 h
    have hx := hs x (List.mem_cons_self ..)
    have := nodup_subN (l := r) (m := m.erase x) h2 fun y hy => (List.mem_erase_of_ne fun e => h1 (by rw [← e]; exact hy)).2 (hs y (List.mem_cons_of_mem _ hy))
    rw [List.length_erase_of_mem hx] at this
    have hpos := List.length_pos_of_mem hx
    rw [List.length_cons]; omega
theorem few_len {α : Type} {f : α → Nat} {l : List α} (hs : l.Pairwise fun x y => f x < f y) {m : List Nat} (hm : ∀ x ∈ l, f x ∈ m) : l.length ≤ m.length := by
  have h : (l.map f).Nodup := by
    rw [List.nodup_iff_pairwise_ne, List.pairwise_map]
    exact hs.imp fun h => Nat.ne_of_lt h
  have := nodup_subN h (m := m) fun x hx => by
    obtain ⟨y, hy, rfl⟩ := List.mem_map.1 hx
    exact hm y hy
  rwa [List.length_map] at this
def adK (k : Nat) : Ad := ⟨addrL k, addrL_len k⟩
def kyK (k : Nat) : W := W.ofInt (k : Int)
def InA (a : Ad) : Prop := ∃ k < 9, a = adK k
def InK (w : W) : Prop := ∃ k < 5, w = kyK k
def FewC (c : Ch) : Prop := InA c.at_ ∧ (c.kind = 4 → InK c.key)
structure FewS (s : List Ac) : Prop where
  ri : RiS s
  ad : ∀ x ∈ s, InA x.at_
  ky : ∀ x ∈ s, ∀ y ∈ x.slots, InK y.key
theorem FewS.len {s : List Ac} (h : FewS s) : s.length ≤ 9 := by
  have := few_len (m := (List.range 9).map fun k => (adK k).num) h.ri.srt fun x hx => by
    obtain ⟨k, hk, e⟩ := h.ad x hx
    exact List.mem_map.2 ⟨k, List.mem_range.2 hk, by rw [e]⟩
  simpa using this
theorem slots_len {l : List Sl} (h : Srt l) (hk : ∀ y ∈ l, InK y.key) : l.length ≤ 5 := by
  have := few_len (m := (List.range 5).map fun k => (kyK k).num) h fun x hx => by
    obtain ⟨k, hk, e⟩ := hk x hx
    exact List.mem_map.2 ⟨k, List.mem_range.2 hk, by rw [e]⟩
  simpa using this
theorem FewS.nil : FewS [] := ⟨RiS.nil, fun x hx => (by cases hx), fun x hx => (by cases hx)⟩
theorem FewS.find {s : List Ac} (h : FewS s) (a : Ad) : ∀ y ∈ (findS s a).slots, InK y.key := by
  rcases findS_cases s a with ⟨e, -⟩ | e
  · rw [e]; intro y hy; cases hy
  · exact h.ky _ e
theorem merge_in {l : List Sl} (h : Ri l) {k v : W} {P : W → Prop} (hl : ∀ y ∈ l, P y.key) (hk : P k) : ∀ y ∈ mergeL l [⟨k, v⟩], P y.key := by
  intro y hy
  have hs := mergeL_srt h.srt (srt_one (⟨k, v⟩ : Sl))
  have h1 := lk_of_mem hs hy
  rw [mergeL_lk h.srt (srt_one _) h.noz, lk_cons, lk_nil] at h1
  by_cases e : k = y.key
  · rw [← e]; exact hk
  · rw [if_neg e] at h1
    obtain ⟨x, h2, h3, -⟩ := lk_mem h1
    rw [← h3]; exact hl x h2
theorem chA_few {x : Ac} {c : Ch} (hx : Ri x.slots) (hk : ∀ y ∈ x.slots, InK y.key) (hc : FewC c) (h0 : (chA x c).2.2 = 0) : (∀ y ∈ (chA x c).1.slots, InK y.key) ∧ FewC (chA x c).2.1 := by
  unfold chA at h0 ⊢
  by_cases h1 : c.kind = 1
  · simp only [if_pos h1]; exact ⟨hk, hc.1, fun h => by simp [h1] at h⟩
  by_cases h2 : c.kind = 2
  · simp only [if_neg h1, if_pos h2]; exact ⟨hk, hc.1, fun h => by simp [h2] at h⟩
  by_cases h3 : c.kind = 3
  · simp only [if_neg h1, if_neg h2, if_pos h3]; exact ⟨hk, hc.1, fun h => by simp [h3] at h⟩
  by_cases h4 : c.kind = 4
  · simp only [if_neg h1, if_neg h2, if_neg h3, if_pos h4] at h0 ⊢
    refine ⟨?_, hc.1, fun _ => hc.2 h4⟩
    rw [mergeR_val hx] at h0 ⊢
    rw [(limR_ok h0).1]
    exact merge_in hx hk (hc.2 h4)
  · simp only [if_neg h1, if_neg h2, if_neg h3, if_neg h4] at h0; cases h0
theorem FewS.do_ {s : List Ac} (h : FewS s) {c : Ch} (hc : FewC c) (hd : Did s c) : FewS (doS s c).1 ∧ FewC (doS s c).2.1 := by
  have hr := hd.right
  rw [hd.val] at hr ⊢
  have hf := chA_few (mayA_slots (h.ri.findMay c.at_)) (h.find c.at_) hc hd.ch
  have ha := (chA_at (findS s c.at_) c).1
  rw [findS_at] at ha
  refine ⟨⟨hr, fun x hx => ?_, fun x hx => ?_⟩, hf.2⟩
  · rcases putS_mem hx with ⟨rfl, -⟩ | ⟨hx, -⟩
    · rw [ha]; exact hc.1
    · exact h.ad x hx
  · rcases putS_mem hx with ⟨rfl, -⟩ | ⟨hx, -⟩
    · exact hf.1
    · exact h.ky x hx
theorem chR_few (r : R4) : FewC (chR r) := by
  have ha : InA (addrA r.b) := ⟨pickN r.b 9, by have := pickN_lt r.b (show (0 : Int) < 9 by decide); omega, addrA_eq r.b⟩
  unfold chR
  split
  · exact ⟨ha, fun h => by simp at h⟩
  split
  · exact ⟨ha, fun h => by simp at h⟩
  split
  · exact ⟨ha, fun h => by simp at h⟩
  · exact ⟨ha, fun _ => ⟨pickN r.c 5, by have := pickN_lt r.c (show (0 : Int) < 5 by decide); omega, rfl⟩⟩
theorem codeN_size (n : Nat) : (codeN n).size ≤ 4 := by
  unfold codeN
  repeat' split
  all_goals decide
theorem mayA_iff {x : Ac} : mayA x = true ↔ 0 ≤ x.nonce ∧ x.nonce ≤ 9007199254740992 ∧ x.code.size ≤ 24576 ∧ Ri x.slots := by
  unfold mayA
  simp only [Bool.and_eq_true, decide_eq_true_eq, rightB_iff]
theorem chR_did {s : List Ac} (h : FewS s) (r : R4) : Did s (chR r) := by
  have hc := chR_few r
  have hm := mayA_iff.1 (h.ri.findMay (chR r).at_)
  have hk := h.find (chR r).at_
  obtain ⟨x, hx⟩ : ∃ x, x = findS s (chR r).at_ := ⟨_, rfl⟩
  rw [← hx] at hm hk
  obtain ⟨m1, m2, m3, m4⟩ := hm
  have hl5 := slots_len m4.srt hk
  have key : (chA x (chR r)).2.2 = 0 ∧ mayA (chA x (chR r)).1 = true := by
    rw [mayA_iff]
    unfold chR
    have p4 := pickN_lt r.c (show (0 : Int) < 4 by decide)
    split
    · unfold chA
      simp only [if_true]
      exact ⟨trivial, m1, m2, m3, m4⟩
    split
    · unfold chA
      dsimp only
      rw [if_neg (by decide : ¬ (2 : Int) = 1), if_pos rfl]
      dsimp only
      exact ⟨rfl, by omega, by omega, m3, m4⟩
    split
    · unfold chA
      dsimp only
      rw [if_neg (by decide : ¬ (3 : Int) = 1), if_neg (by decide : ¬ (3 : Int) = 2), if_pos rfl]
      dsimp only
      exact ⟨rfl, m1, m2, Nat.le_trans (codeN_size _) (by decide), m4⟩
    · unfold chA
      dsimp only
      rw [if_neg (by decide : ¬ (4 : Int) = 1), if_neg (by decide : ¬ (4 : Int) = 2), if_neg (by decide : ¬ (4 : Int) = 3), if_pos rfl]
      dsimp only
      rw [mergeR_val m4]
      have hs := mergeL_srt m4.srt (srt_one (⟨W.ofInt (pickN r.c 5 : Nat), W.ofInt (pickN r.d 3 : Nat)⟩ : Sl))
      have hl := slots_len hs (merge_in m4 hk ⟨pickN r.c 5, by have := pickN_lt r.c (show (0 : Int) < 5 by decide); omega, rfl⟩)
      have e : limR (mergeL x.slots [⟨W.ofInt (pickN r.c 5 : Nat), W.ofInt (pickN r.d 3 : Nat)⟩]) = (mergeL x.slots [⟨W.ofInt (pickN r.c 5 : Nat), W.ofInt (pickN r.d 3 : Nat)⟩], 0) := by
        unfold limR; rw [if_neg (by omega)]
      rw [e]
      exact ⟨rfl, m1, m2, m3, hs, mergeL_noz m4.srt (srt_one _) m4.noz, by dsimp only; omega⟩
  rw [hx] at key
  refine ⟨h.ri, key.1, key.2, ?_⟩
  unfold putS
  have l1 := List.length_filter_le (fun y : Ac => decide (y.at_.num < (chA (findS s (chR r).at_) (chR r)).1.at_.num)) s
  have l2 := List.length_filter_le (fun y : Ac => decide ((chA (findS s (chR r).at_) (chR r)).1.at_.num < y.at_.num)) s
  have l9 := h.len
  rw [List.length_append, List.length_append]
  split <;> simp only [List.length_nil, List.length_singleton] <;> omega
theorem stepS_few {s : List Ac} (h : FewS s) (r : R4) : FewS (stepS s r) := by
  unfold stepS
  rw [if_pos (doS_iff.2 (chR_did h r))]
  exact (h.do_ (chR_few r) (chR_did h r)).1
theorem foldS_few : ∀ (l : List R4) {s : List Ac}, FewS s → FewS (l.foldl stepS s)
  | [], _, h => h
  | r :: l, _, h => foldS_few l (stepS_few h r)
theorem stateR_few (s : List R4) : FewS (stateR s) := foldS_few _ FewS.nil
end Go.Ev
set_option linter.unusedSimpArgs false
set_option linter.unusedVariables false
namespace Go.Ev
def adE : Ad := ⟨5 :: List.replicate 19 0, by decide⟩
def e1w : W := W.ofInt 1
def e2w : W := W.ofInt 2
def e5w : W := W.ofInt 5
def xE5 : Ac := ⟨adE, e5w, 0, .empty, []⟩
def xE2 : Ac := ⟨adE, e5w, 0, .empty, [⟨e1w, e2w⟩]⟩
def cE5 : Ch := ⟨1, adE, W.zero, e5w, 0, .empty⟩
def uE5 : Ch := ⟨1, adE, W.zero, W.zero, 0, .empty⟩
def cE2 : Ch := ⟨4, adE, e1w, e2w, 0, .empty⟩
def uE2 : Ch := ⟨4, adE, e1w, W.zero, 0, .empty⟩
theorem e2w_ne : e2w ≠ W.zero := by decide
theorem mayE0 {a : Ad} {b : W} : mayA ⟨a, b, 0, .empty, []⟩ = true := by
  unfold mayA
  rw [rightB_iff.2 ⟨List.Pairwise.nil, fun x h => (by cases h), by simp⟩]
  simp
theorem rightE1 : rightB [⟨e1w, e2w⟩] = true := rightB_iff.2 ⟨srt_one _, fun x hx => by rw [List.mem_singleton.1 hx]; exact e2w_ne, by simp⟩
theorem mayE2 : mayA xE2 = true := by
  unfold mayA
  show (_ && rightB [⟨e1w, e2w⟩]) = true
  rw [rightE1]
  decide
theorem xE5_ne : emptyA xE5 = false := by decide
theorem xE2_ne : emptyA xE2 = false := by decide
theorem doE5 : doS [] cE5 = ([xE5], uE5, 0) := by
  have hc : chA (findS [] cE5.at_) cE5 = (xE5, uE5, 0) := by
    show chA (findS [] adE) cE5 = _
    rw [findS_none fun x hx => by cases hx]
    unfold chA
    rw [if_pos (show cE5.kind = 1 from rfl)]
    rfl
  have hp : putS [] xE5 = [xE5] := by
    unfold putS
    rw [xE5_ne]
    rfl
  have hd : Did [] cE5 := ⟨RiS.nil, by rw [hc], by rw [hc]; exact mayE0, by rw [hc, hp]; decide⟩
  rw [hd.val, hc, hp]
theorem riE5 : RiS [xE5] := by
  have h := (doS_iff.1 (show (doS [] cE5).2.2 = 0 by rw [doE5])).right
  rw [doE5] at h
  exact h
theorem findE5 : findS [xE5] adE = xE5 := findS_some riE5.srt (x := xE5) (by simp)
theorem undoE5 : ∃ w, doS [xE5] uE5 = ([], w, 0) := by
  have h := (doS_iff.1 (show (doS [] cE5).2.2 = 0 by rw [doE5])).back
  rw [doE5] at h
  exact h
theorem doE2 : doS [xE5] cE2 = ([xE2], uE2, 0) := by
  have hm : mergeL [] [⟨e1w, e2w⟩] = [⟨e1w, e2w⟩] := by
    unfold mergeL
    rw [joinS, joinS]
    simp [pickM, e2w_ne]
  have hc : chA (findS [xE5] cE2.at_) cE2 = (xE2, uE2, 0) := by
    show chA (findS [xE5] adE) cE2 = _
    rw [findE5]
    unfold chA
    rw [if_neg (show ¬ cE2.kind = 1 by decide), if_neg (show ¬ cE2.kind = 2 by decide), if_neg (show ¬ cE2.kind = 3 by decide), if_pos (show cE2.kind = 4 from rfl)]
    show ((⟨adE, e5w, 0, .empty, (mergeR [] [⟨e1w, e2w⟩]).1⟩ : Ac), (⟨4, adE, e1w, getW [] e1w, 0, .empty⟩ : Ch), (mergeR [] [⟨e1w, e2w⟩]).2) = _
    rw [mergeR_val ⟨List.Pairwise.nil, fun x h => (by cases h), by simp⟩, hm]
    rfl
  have hp : putS [xE5] xE2 = [xE2] := by
    unfold putS
    rw [xE2_ne]
    have h1 : decide (xE5.at_.num < xE2.at_.num) = false := decide_eq_false (Nat.lt_irrefl _)
    have h2 : decide (xE2.at_.num < xE5.at_.num) = false := decide_eq_false (Nat.lt_irrefl _)
    simp [h1, h2]
  have hd : Did [xE5] cE2 := ⟨riE5, by rw [hc], by rw [hc]; exact mayE2, by rw [hc, hp]; decide⟩
  rw [hd.val, hc, hp]
theorem riE2 : RiS [xE2] := by
  have h := (doS_iff.1 (show (doS [xE5] cE2).2.2 = 0 by rw [doE2])).right
  rw [doE2] at h
  exact h
theorem findE2 : findS [xE2] adE = xE2 := findS_some riE2.srt (x := xE2) (by simp)
def cEo : Ch := ⟨5, Ad.zero, W.zero, W.zero, 0, .empty⟩
theorem doEo : doS [xE5] cEo = ([xE5], Ch.zero, 1) := by
  have hc : (chA (findS [xE5] cEo.at_) cEo).2.2 = 1 := by
    unfold chA
    rw [if_neg (show ¬ cEo.kind = 1 by decide), if_neg (show ¬ cEo.kind = 2 by decide), if_neg (show ¬ cEo.kind = 3 by decide), if_neg (show ¬ cEo.kind = 4 by decide)]
  unfold doS
  rw [if_neg (by rw [rightS_iff.2 riE5]; decide), if_pos (by rw [hc]; decide), hc]
theorem setE0 : setS [emptyAt Ad.zero] xE2 = ([], 1) := by
  unfold setS
  have : rightS [emptyAt Ad.zero] = false := by
    cases h : rightS [emptyAt Ad.zero]
    · rfl
    · have := (rightS_iff.1 h).ne (emptyAt Ad.zero) (by simp)
      exact absurd this (by decide)
  rw [this]
  rfl
end Go.Ev
set_option linter.unusedSimpArgs false
set_option linter.unusedVariables false
namespace Go.Ev
def DoR (r : List Ac × Ch × Int) : Value → Hp → Prop := fun v H => ∃ w, v = .tuple #[w, r.2.1.v, .int .i64 r.2.2] ∧ StR r.1 w H
theorem DoR.rd (r : List Ac × Ch × Int) : RdOnly (DoR r) := by
  rintro v A B h ⟨w, rfl, h1⟩
  exact ⟨w, rfl, StR.rd _ _ _ _ h h1⟩
def SetR (r : List Ac × Int) : Value → Hp → Prop := fun v H => ∃ w, v = .tuple #[w, .int .i64 r.2] ∧ StR r.1 w H
theorem SetR.rd (r : List Ac × Int) : RdOnly (SetR r) := by
  rintro v A B h ⟨w, rfl, h1⟩
  exact ⟨w, rfl, StR.rd _ _ _ _ h h1⟩
theorem CallsV.pin {P : Program} {g : FuncId} {args : List Value} {H H' : Hp} {K : Value → Hp → Prop} (hp : H.Perm H') (hm : marksOf H' = marksOf H) (hc : CallsV P g args H' K) : CallsV P g args H K :=
  ⟨hc.1, fun w0 mu w hs => by have := hc.2 w0 mu w (hs.perm hp); rwa [hm] at this⟩
theorem adE_cells : adE.cells = [.int .u8 5, .int .u8 0, .int .u8 0, .int .u8 0, .int .u8 0, .int .u8 0, .int .u8 0, .int .u8 0, .int .u8 0, .int .u8 0, .int .u8 0, .int .u8 0, .int .u8 0, .int .u8 0, .int .u8 0, .int .u8 0, .int .u8 0, .int .u8 0, .int .u8 0, .int .u8 0] := rfl
theorem takeP8 {P : Program} {g : FuncId} {args : List Value} (L : Hp) {M : Hp} {v : Value} {K : Value → Prop} (hc : ∀ M0, roM M0 → cellsAt M0 = cellsAt M → CallsV P g args M0 (Ret0 v)) (hL : freshN L M) (hk : K v) : TakeV P g args (L ++ M) K := TakeV.mk (derE_behind hL) (hc (roAll M) (roAll_ro M) (cellsAt_roAll M)) hk
end Go.Ev
namespace Go.Proofs.YtpcjmmdgopihcaaGreatDoor
open Go Go.Ev Go.Proofs
set_option maxRecDepth 100000
set_option maxHeartbeats 4000000
theorem sdo_R {M : Hp} {s : List Ac} {v : Value} {c : Ch} (hv : StR s v M) (hn : s.length ≤ 1000000000) (hsl : ∀ y ∈ s, y.slots.length ≤ 1000000000000) : CallsR Tryz.prog 25 [v, c.v] M (DoR (doS s c)) :=
  (sdo_ok hv hn hsl).toR fun v N1 A _ _ hf hq => by
    obtain ⟨w, rfl, hq⟩ := hq
    exact ⟨w, rfl, hq.r hf⟩
theorem sset_R {M : Hp} {s : List Ac} {v sv : Value} {x : Ac} (hv : StR s v M) (hx : LiR Sl.cells 8 M x.slots sv) (hn : s.length ≤ 1000000000) : CallsR Tryz.prog 22 [v, .agg (x.cells sv).toArray] M (SetR (setS s x)) :=
  (sset_ok hv hx hn).toR fun v N1 A _ _ hf hq => by
    obtain ⟨w, rfl, hq⟩ := hq
    exact ⟨w, rfl, hq.r hf⟩
def plAwk08 : Plans := fun i => if i = 3 then [] else if i = 4 then [(0, 9)] else if i = 5 then [] else if i = 6 then [(0, 9)] else if i = 10 then [(0, 9)] else if i = 12 then [] else Tryz.pl9 i
attribute [push_cast] plAwk08
theorem awk08_ok {M : Hp} (hk : KonR M) (hm : marksOf M = []) : CallsV Tryz.prog 9 [] M (Ret0 (.bool true)) := by
  have k5 : i64In 5 := by decide
  have e5 : W.ofInt 5 = e5w := rfl
  have kk1 : i64In 1 := by decide
  have ee1 : W.ofInt 1 = e1w := rfl
  have kk2 : i64In 2 := by decide
  have ee2 : W.ofInt 2 = e2w := rfl
  refine callsO gV2_ok Tryz.mix plAwk08 Tryz.func9 rfl Tryz.ntmps9 Tryz.results9 rfl (by first | rfl | assumption) (Nat.le_of_ble_eq_true rfl) (by kernel_rfl) ?_
  simp only [push_cast, seval, reduceCtorEq]
  intro b2 hb2
  simp only [push_cast, seval, reduceCtorEq, ← adE_cells, Ad.agg, k5]
  have f2 : fresh b2 M := hb2
  have hLX : freshN [⟨b2, 0, .cel 25, adE.cells⟩] M := ⟨f2, trivial⟩
  have fB2 : findE (⟨b2, 0, .cel 25, adE.cells⟩ :: M) b2 = some ⟨b2, 0, .cel 25, adE.cells⟩ := by simp only [push_cast, seval, reduceCtorEq]
  refine drawS gV2_ok Tryz.mix [(1, .func (.func 29) #[] #[]), (2, .pointer (some ⟨b2, 0, none⟩))]
      (fun i val => match i with
        | 0 => val 0 = adE.v
        | 1 => val 1 = .func (.func 29) #[] #[]
        | 2 => val 2 = e5w.v
        | 3 => val 3 = cE5.v
        | 4 => ∃ p k, val 4 = .tuple #[.slice p 1 k, uE5.v, .int .i64 0]
        | 5 => val 5 = val 4 ∧ ∃ p k, val 4 = .tuple #[.slice p 1 k, uE5.v, .int .i64 0]
        | 6 => ∃ p k, val 6 = .slice p 1 k ∧ val 5 = .tuple #[val 6, uE5.v, .int .i64 0]
        | 7 => val 7 = uE5.v
        | 8 => val 8 = .int .i64 0
        | 9 => ∃ b, val 9 = .pointer (some ⟨b, 0, none⟩)
        | 10 => ∃ p k, val 10 = .slice p 1 k ∧ val 6 = val 10
        | 12 => val 12 = .int .i64 0
        | _ => True)
      (fun i val N => match i with
        | 4 => allWr N ∧ marksOf N = [] ∧ ∃ w, val 4 = .tuple #[w, uE5.v, .int .i64 0] ∧ StR [xE5] w (N ++ M)
        | 5 => N = []
        | 6 => N = []
        | 9 => ∃ b, val 9 = .pointer (some ⟨b, 0, none⟩) ∧ N = [⟨b, 0, .cel 33, Ch.zero.cells⟩]
        | 10 => N = []
        | 11 => ∃ b, val 9 = .pointer (some ⟨b, 0, none⟩) ∧ N = [⟨b, 0, .cel 33, uE5.cells⟩]
        | _ => N = []) (fun i => if i = 11 then [9] else []) [4, 11] (by kernel_rfl) (by kernel_rfl) (by kernel_rfl) ?_ (by rfl) (by decide) (by kernel_rfl) ?_ ?_ ?_ ?_ ?_
  · simp only [push_cast, seval, reduceCtorEq, subT]
  · intro i hi hiF
    replace hi : i < 13 := hi
    obtain rfl | rfl | rfl | rfl | rfl | rfl | rfl | rfl | rfl | rfl | rfl | rfl | rfl : i = 0 ∨ i = 1 ∨ i = 2 ∨ i = 3 ∨ i = 4 ∨ i = 5 ∨ i = 6 ∨ i = 7 ∨ i = 8 ∨ i = 9 ∨ i = 10 ∨ i = 11 ∨ i = 12 := by omega
    all_goals first
      | exact .inl fun _ _ h => h
      | exact absurd (by decide) hiF
      | exact .inr (by kernel_rfl)
  · intro i o ho val val' h1 h2 hV
    have hi := (Array.getElem?_eq_some_iff.1 ho).1
    replace hi : i < 13 := hi
    obtain rfl | rfl | rfl | rfl | rfl | rfl | rfl | rfl | rfl | rfl | rfl | rfl | rfl : i = 0 ∨ i = 1 ∨ i = 2 ∨ i = 3 ∨ i = 4 ∨ i = 5 ∨ i = 6 ∨ i = 7 ∨ i = 8 ∨ i = 9 ∨ i = 10 ∨ i = 11 ∨ i = 12 := by omega
    · first
        | exact trivial
        | exact hV
        | exact h1.trans hV
        | (rw [h1]; exact hV)
    · first
        | exact trivial
        | exact hV
        | exact h1.trans hV
        | (rw [h1]; exact hV)
    · first
        | exact trivial
        | exact hV
        | exact h1.trans hV
        | (rw [h1]; exact hV)
    · first
        | exact trivial
        | exact hV
        | exact h1.trans hV
        | (rw [h1]; exact hV)
    · first
        | exact trivial
        | exact hV
        | exact h1.trans hV
        | (rw [h1]; exact hV)
    · simp only [List.getElem?_toArray, List.getElem?_cons_zero, List.getElem?_cons_succ, Option.some.injEq] at ho; subst ho
      have h5 := h2 4 (by kernel_rfl)
      obtain ⟨a1, a2⟩ := hV
      exact ⟨by rw [h1, h5]; exact a1, by rw [h5]; exact a2⟩
    · simp only [List.getElem?_toArray, List.getElem?_cons_zero, List.getElem?_cons_succ, Option.some.injEq] at ho; subst ho
      have h6 := h2 5 (by kernel_rfl)
      obtain ⟨p, k, a1, a2⟩ := hV
      exact ⟨p, k, by rw [h1]; exact a1, by rw [h6, h1]; exact a2⟩
    · first
        | exact trivial
        | exact hV
        | exact h1.trans hV
        | (rw [h1]; exact hV)
    · first
        | exact trivial
        | exact hV
        | exact h1.trans hV
        | (rw [h1]; exact hV)
    · first
        | exact trivial
        | exact hV
        | exact h1.trans hV
        | (rw [h1]; exact hV)
    · simp only [List.getElem?_toArray, List.getElem?_cons_zero, List.getElem?_cons_succ, Option.some.injEq] at ho; subst ho
      have h6 := h2 6 (by kernel_rfl)
      obtain ⟨p, k, a1, a2⟩ := hV
      exact ⟨p, k, by rw [h1]; exact a1, by rw [h6, h1]; exact a2⟩
    · first
        | exact trivial
        | exact hV
        | exact h1.trans hV
        | (rw [h1]; exact hV)
    · first
        | exact trivial
        | exact hV
        | exact h1.trans hV
        | (rw [h1]; exact hV)
  · intro i o ho val val' N h1 h2 hQ
    have hi := (Array.getElem?_eq_some_iff.1 ho).1
    replace hi : i < 13 := hi
    obtain rfl | rfl | rfl | rfl | rfl | rfl | rfl | rfl | rfl | rfl | rfl | rfl | rfl : i = 0 ∨ i = 1 ∨ i = 2 ∨ i = 3 ∨ i = 4 ∨ i = 5 ∨ i = 6 ∨ i = 7 ∨ i = 8 ∨ i = 9 ∨ i = 10 ∨ i = 11 ∨ i = 12 := by omega
    · first
        | exact trivial
        | exact hQ
        | exact h1.trans hQ
        | (rw [h1]; exact hQ)
    · first
        | exact trivial
        | exact hQ
        | exact h1.trans hQ
        | (rw [h1]; exact hQ)
    · first
        | exact trivial
        | exact hQ
        | exact h1.trans hQ
        | (rw [h1]; exact hQ)
    · first
        | exact trivial
        | exact hQ
        | exact h1.trans hQ
        | (rw [h1]; exact hQ)
    · first
        | exact trivial
        | exact hQ
        | exact h1.trans hQ
        | (rw [h1]; exact hQ)
    · first
        | exact trivial
        | exact hQ
        | exact h1.trans hQ
        | (rw [h1]; exact hQ)
    · first
        | exact trivial
        | exact hQ
        | exact h1.trans hQ
        | (rw [h1]; exact hQ)
    · first
        | exact trivial
        | exact hQ
        | exact h1.trans hQ
        | (rw [h1]; exact hQ)
    · first
        | exact trivial
        | exact hQ
        | exact h1.trans hQ
        | (rw [h1]; exact hQ)
    · first
        | exact trivial
        | exact hQ
        | exact h1.trans hQ
        | (rw [h1]; exact hQ)
    · first
        | exact trivial
        | exact hQ
        | exact h1.trans hQ
        | (rw [h1]; exact hQ)
    · simp only [List.getElem?_toArray, List.getElem?_cons_zero, List.getElem?_cons_succ, Option.some.injEq] at ho; subst ho
      have h10 := h2 9 (by kernel_rfl)
      obtain ⟨b, a1, a3⟩ := hQ
      exact ⟨b, by rw [h10]; exact a1, a3⟩
    · first
        | exact trivial
        | exact hQ
        | exact h1.trans hQ
        | (rw [h1]; exact hQ)
  · intro i o ho T' Y val mem hT hdep hus hfr hY hmY hapY
    have hi := (Array.getElem?_eq_some_iff.1 ho).1
    replace hi : i < 13 := hi
    have y2 := hY _ _ fB2
    have hM0Y : ∀ b e, findE M b = some e → findE Y b = some e := fun b e h => hY b e (find_behind hLX b e h)
    have t2 : getT T' 2 = some (.pointer (some ⟨b2, 0, none⟩)) := hT.2.1
    have t1 : getT T' 1 = some (.func (.func 29) #[] #[]) := hT.1
    obtain rfl | rfl | rfl | rfl | rfl | rfl | rfl | rfl | rfl | rfl | rfl | rfl | rfl : i = 0 ∨ i = 1 ∨ i = 2 ∨ i = 3 ∨ i = 4 ∨ i = 5 ∨ i = 6 ∨ i = 7 ∨ i = 8 ∨ i = 9 ∨ i = 10 ∨ i = 11 ∨ i = 12 := by omega
    · simp only [List.getElem?_toArray, List.getElem?_cons_zero, List.getElem?_cons_succ, Option.some.injEq] at ho; subst ho
      simp only [push_cast, seval, reduceCtorEq, List.flatMap_nil, List.flatMap_cons, List.append_nil, List.nil_append, t2, y2]
      exact ⟨[], rfl, trivial, rfl, upd_self _ _ _, rfl⟩
    · simp only [List.getElem?_toArray, List.getElem?_cons_zero, List.getElem?_cons_succ, Option.some.injEq] at ho; subst ho
      simp only [push_cast, seval, reduceCtorEq, List.flatMap_nil, List.flatMap_cons, List.append_nil, List.nil_append, t1]
      exact ⟨[], rfl, trivial, rfl, upd_self _ _ _, rfl⟩
    · simp only [List.getElem?_toArray, List.getElem?_cons_zero, List.getElem?_cons_succ, Option.some.injEq] at ho; subst ho
      obtain ⟨v1, g1⟩ := hdep 1 (by kernel_rfl)
      replace g1 := g1 23 rfl
      rw [show val 1 = _ from v1] at g1
      simp only [push_cast, seval, reduceCtorEq, List.flatMap_nil, List.flatMap_cons, List.append_nil, List.nil_append, g1, k5, e5]
      exact ⟨[], rfl, trivial, rfl, upd_self _ _ _, rfl⟩
    · simp only [List.getElem?_toArray, List.getElem?_cons_zero, List.getElem?_cons_succ, Option.some.injEq] at ho; subst ho
      obtain ⟨v0, g0⟩ := hdep 0 (by kernel_rfl)
      replace g0 := g0 22 rfl
      rw [show val 0 = _ from v0] at g0
      obtain ⟨v2, g2⟩ := hdep 2 (by kernel_rfl)
      replace g2 := g2 24 rfl
      rw [show val 2 = _ from v2] at g2
      simp only [push_cast, seval, reduceCtorEq, List.flatMap_nil, List.flatMap_cons, List.append_nil, List.nil_append, g0, g2]
      exact ⟨[], rfl, trivial, rfl, upd_self _ _ _, rfl⟩
    · simp only [List.getElem?_toArray, List.getElem?_cons_zero, List.getElem?_cons_succ, Option.some.injEq] at ho; subst ho
      obtain ⟨v3, g3⟩ := hdep 3 (by kernel_rfl)
      replace g3 := g3 25 rfl
      rw [show val 3 = _ from v3] at g3
      simp only [push_cast, seval, reduceCtorEq, List.flatMap_nil, List.flatMap_cons, List.append_nil, List.nil_append, g3]
      refine callS (M := M) (by have := sdo_R (s := []) (c := cE5) (v := .slice none 0 0) (StR.nil M 0) (by decide) (fun y hy => by cases hy); rw [doE5] at this; exact this) (DoR.rd _) hM0Y fun w N hw hm1 hf hq => ⟨N, rfl, hw, hm1, ?_, ?_⟩
      · obtain ⟨u, rfl, hq⟩ := hq
        obtain ⟨p1, k1, rfl⟩ := hq.slice
        exact ⟨p1, k1, by rw [upd_self]; rfl⟩
      · rw [upd_self]; exact ⟨hw, hm1, hq⟩
    · simp only [List.getElem?_toArray, List.getElem?_cons_zero, List.getElem?_cons_succ, Option.some.injEq] at ho; subst ho
      obtain ⟨v4, g4⟩ := hdep 4 (by kernel_rfl)
      replace g4 := g4 26 rfl
      have v40 := v4
      simp only [push_cast, seval, reduceCtorEq, List.flatMap_nil, List.flatMap_cons, List.append_nil, List.nil_append, g4]
      refine ⟨[], rfl, trivial, rfl, ⟨?_, ?_⟩, rfl⟩
      · simp [upd]
      · simpa [upd] using v40
    · simp only [List.getElem?_toArray, List.getElem?_cons_zero, List.getElem?_cons_succ, Option.some.injEq] at ho; subst ho
      obtain ⟨v5, g5⟩ := hdep 5 (by kernel_rfl)
      replace g5 := g5 21 rfl
      obtain ⟨v5, p, k, v4⟩ := v5
      have v5 : val 5 = _ := v5
      rw [v5, v4] at g5
      simp only [push_cast, seval, reduceCtorEq, List.flatMap_nil, List.flatMap_cons, List.append_nil, List.nil_append, g5]
      refine ⟨[], rfl, trivial, rfl, ⟨p, k, ?_, ?_⟩, rfl⟩
      · simp [upd]
      · simp [upd, v5, v4]
    · simp only [List.getElem?_toArray, List.getElem?_cons_zero, List.getElem?_cons_succ, Option.some.injEq] at ho; subst ho
      obtain ⟨v5, g5⟩ := hdep 5 (by kernel_rfl)
      replace g5 := g5 21 rfl
      obtain ⟨v5, p, k, v4⟩ := v5
      have v5 : val 5 = _ := v5
      rw [v5, v4] at g5
      simp only [push_cast, seval, reduceCtorEq, List.flatMap_nil, List.flatMap_cons, List.append_nil, List.nil_append, g5]
      exact ⟨[], rfl, trivial, rfl, upd_self _ _ _, rfl⟩
    · simp only [List.getElem?_toArray, List.getElem?_cons_zero, List.getElem?_cons_succ, Option.some.injEq] at ho; subst ho
      obtain ⟨v5, g5⟩ := hdep 5 (by kernel_rfl)
      replace g5 := g5 21 rfl
      obtain ⟨v5, p, k, v4⟩ := v5
      have v5 : val 5 = _ := v5
      rw [v5, v4] at g5
      simp only [push_cast, seval, reduceCtorEq, List.flatMap_nil, List.flatMap_cons, List.append_nil, List.nil_append, g5]
      exact ⟨[], rfl, trivial, rfl, upd_self _ _ _, rfl⟩
    · simp only [List.getElem?_toArray, List.getElem?_cons_zero, List.getElem?_cons_succ, Option.some.injEq] at ho; subst ho
      simp only [push_cast, seval, reduceCtorEq, List.flatMap_nil, List.flatMap_cons, List.append_nil, List.nil_append]
      intro b hf
      exact ⟨[_], rfl, ⟨trivial, trivial⟩, rfl, ⟨b, upd_self _ _ _⟩, b, upd_self _ _ _, rfl⟩
    · simp only [List.getElem?_toArray, List.getElem?_cons_zero, List.getElem?_cons_succ, Option.some.injEq] at ho; subst ho
      obtain ⟨v6, g6⟩ := hdep 6 (by kernel_rfl)
      replace g6 := g6 27 rfl
      obtain ⟨p, k, v6, -⟩ := v6
      have v6 : val 6 = _ := v6
      rw [v6] at g6
      simp only [push_cast, seval, reduceCtorEq, List.flatMap_nil, List.flatMap_cons, List.append_nil, List.nil_append, g6]
      refine ⟨[], rfl, trivial, rfl, ⟨p, k, ?_, ?_⟩, rfl⟩
      · simp [upd]
      · simp [upd, v6]
    · simp only [List.getElem?_toArray, List.getElem?_cons_zero, List.getElem?_cons_succ, Option.some.injEq] at ho; subst ho
      obtain ⟨v7, g7⟩ := hdep 7 (by kernel_rfl)
      replace g7 := g7 28 rfl
      rw [show val 7 = _ from v7] at g7
      obtain ⟨v9, g9⟩ := hdep 9 (by kernel_rfl)
      replace g9 := g9 4 rfl
      obtain ⟨b7, v9, hN⟩ := hus 9 (List.mem_singleton.2 rfl)
      have v9 : val 9 = _ := v9
      rw [v9] at g9
      simp only [push_cast, seval, reduceCtorEq, List.flatMap_nil, List.flatMap_cons, List.append_nil, List.nil_append, g7, g9, hN, List.cons_append, Ch.zero.len, (uE5).len, (show (uE5).cells.all oneC = true from rfl)]
      refine ⟨[_], rfl, ⟨trivial, trivial⟩, rfl, b7, ?_, rfl⟩
      · simp [upd, v9]
    · simp only [List.getElem?_toArray, List.getElem?_cons_zero, List.getElem?_cons_succ, Option.some.injEq] at ho; subst ho
      obtain ⟨v8, g8⟩ := hdep 8 (by kernel_rfl)
      replace g8 := g8 29 rfl
      rw [show val 8 = _ from v8] at g8
      simp only [push_cast, seval, reduceCtorEq, List.flatMap_nil, List.flatMap_cons, List.append_nil, List.nil_append, g8]
      exact ⟨[], rfl, trivial, rfl, upd_self _ _ _, rfl⟩
  · intro val mem hV hQ hap hwr
    obtain ⟨w4, m4, u4, hu4, hq4⟩ := hQ 4 (by decide)
    obtain ⟨b4, v9, hN11⟩ := hQ 11 (by decide)
    obtain ⟨p1, k1, v10, h610⟩ := hV 10 (by decide)
    obtain ⟨h5, -⟩ := hV 5 (by decide)
    obtain ⟨-, -, -, h65⟩ := hV 6 (by decide)
    have v12 : val 12 = .int .i64 0 := hV 12 (by decide)
    have v9 : val 9 = _ := v9
    have v10 : val 10 = _ := v10
    have h610 : val 6 = val 10 := h610
    have hu4 : val 4 = _ := hu4
    have h5 : val 5 = val 4 := h5
    have h65 : val 5 = .tuple #[val 6, uE5.v, .int .i64 0] := h65
    rw [h5, hu4, h610, v10] at h65
    have hs5 : u4 = .slice p1 1 k1 := by injection h65 with h; have h1 := congrArg Array.toList h; simp only [List.cons.injEq] at h1; exact h1.1
    subst hs5
    have hMM : List.flatMap mem [4, 11] ++ (⟨b2, 0, .cel 25, adE.cells⟩ :: M) = mem 4 ++ (⟨b4, 0, .cel 33, uE5.cells⟩ :: ⟨b2, 0, .cel 25, adE.cells⟩ :: M) := by
      simp only [List.flatMap_cons, List.flatMap_nil, List.append_nil, hN11, List.append_assoc, List.cons_append, List.nil_append]
    rw [hMM] at hap ⊢
    have a5 := freshN_apart hap w4
    have hap' := (List.pairwise_append.1 hap).2.1
    have a7 := freshN_apart (A := [⟨b4, 0, .cel 33, uE5.cells⟩]) hap' ⟨trivial, trivial⟩
    have q57 := freshN_sym a5
    have hb4 := a7.1
    simp only [push_cast, seval, reduceCtorEq] at hb4
    have f4 : fresh b4 (M ++ mem 4) := fresh_app_iff.2 ⟨hb4.2.2, q57.1⟩
    have f2 : fresh b2 (M ++ mem 4) := fresh_app_iff.2 ⟨f2, q57.2.1⟩
    have hg1 : Gr M (M ++ mem 4) := ⟨hm, mem 4, rfl, w4, m4⟩
    have hs1 : StR [xE5] (.slice p1 1 k1) (M ++ mem 4) := StR.rd _ _ _ _ (cellsAt_swap (freshN_cons (freshN_cons a5))) hq4
    simp only [push_cast, seval, reduceCtorEq, v9, v10, v12]
    refine WpV.perm (H' := ⟨b4, 0, .cel 33, uE5.cells⟩ :: ⟨b2, 0, .cel 25, adE.cells⟩ :: (M ++ mem 4)) ?_ ?_ ?_
    · exact List.perm_append_comm
    · simp [marks_append, marksOf, m4, hm]
    refine WpV.slots [(1, .func (.func 29) #[] #[]), (2, .pointer (some ⟨b2, 0, none⟩)), (3, .slice p1 1 k1), (4, .pointer (some ⟨b4, 0, none⟩)), (5, .int .i64 0)] (by simp only [push_cast, seval, reduceCtorEq]) ?_
    generalize M ++ mem 4 = M1 at hg1 hs1 f4 f2 ⊢
    refine regO gV2_ok ?_
    simp only [push_cast, seval, reduceCtorEq, hb4]
    obtain ⟨wU, hwU⟩ := undoE5
    refine useL [_, _] (by have := sdo_R (c := uE5) hs1 (by decide) (fun y hy => by rw [List.mem_singleton.1 hy]; decide); rw [hwU] at this; exact this) (DoR.rd _) hg1.marks ⟨f4, f2, trivial⟩ fun w M2 hg2 hL2 hq => ?_
    obtain ⟨u, rfl, ht⟩ := hq
    have ht : StR [] u M2 := ht
    obtain ⟨pt, kt, rfl⟩ := ht.slice
    have hs1 := hs1.ext hg2.ext
    simp only [push_cast, seval, reduceCtorEq, hb4]
    intro b7 hb7
    try simp only [push_cast, seval, reduceCtorEq, hb4, hb7]
    obtain ⟨f4, f2, -⟩ := id hL2
    have f7 : fresh b7 M2 := hb7.2.2.2.2
    have hm2 := hg2.marks
    have hL7 : freshN [⟨b7, 0, .cel 33, wU.cells⟩, ⟨b4, 0, .cel 33, uE5.cells⟩, ⟨b2, 0, .cel 25, adE.cells⟩] M2 := ⟨f7, f4, f2, trivial⟩
    have fB2 : findE (⟨b7, 0, .cel 33, wU.cells⟩ :: ⟨b4, 0, .cel 33, uE5.cells⟩ :: ⟨b2, 0, .cel 25, adE.cells⟩ :: M2) b2 = some ⟨b2, 0, .cel 25, adE.cells⟩ := by simp only [push_cast, seval, reduceCtorEq, hb7, hb4]
    refine WpV.slots [(1, .func (.func 29) #[] #[]), (2, .pointer (some ⟨b2, 0, none⟩)), (3, .slice p1 1 k1), (4, .pointer (some ⟨b4, 0, none⟩)), (5, .int .i64 0), (6, .slice pt 0 kt), (7, .pointer (some ⟨b7, 0, none⟩)), (8, .int .i64 0)] (by simp only [push_cast, seval, reduceCtorEq]) ?_
    refine drawS gV2_ok Tryz.mix [(1, .func (.func 29) #[] #[]), (2, .pointer (some ⟨b2, 0, none⟩)), (3, .slice p1 1 k1), (4, .pointer (some ⟨b4, 0, none⟩)), (5, .int .i64 0), (6, .slice pt 0 kt), (7, .pointer (some ⟨b7, 0, none⟩)), (8, .int .i64 0)]
        (fun i val => match i with
          | 0 => val 0 = .slice p1 1 k1
          | 1 => val 1 = adE.v
          | 2 => val 2 = .func (.func 29) #[] #[]
          | 3 => val 3 = e1w.v
          | 4 => val 4 = .func (.func 29) #[] #[]
          | 5 => val 5 = e2w.v
          | 6 => val 6 = cE2.v
          | 7 => ∃ p k, val 7 = .tuple #[.slice p 1 k, uE2.v, .int .i64 0]
          | 8 => val 8 = val 7 ∧ ∃ p k, val 7 = .tuple #[.slice p 1 k, uE2.v, .int .i64 0]
          | 9 => ∃ p k, val 9 = .slice p 1 k ∧ val 8 = .tuple #[val 9, uE2.v, .int .i64 0]
          | 10 => val 10 = uE2.v
          | 11 => val 11 = .int .i64 0
          | 12 => ∃ b, val 12 = .pointer (some ⟨b, 0, none⟩)
          | 13 => ∃ p k, val 13 = .slice p 1 k ∧ val 9 = val 13
          | 15 => val 15 = .int .i64 0
          | _ => True)
        (fun i val N => match i with
          | 7 => allWr N ∧ marksOf N = [] ∧ ∃ w, val 7 = .tuple #[w, uE2.v, .int .i64 0] ∧ StR [xE2] w (N ++ M2)
          | 8 => N = []
          | 9 => N = []
          | 12 => ∃ b, val 12 = .pointer (some ⟨b, 0, none⟩) ∧ N = [⟨b, 0, .cel 33, Ch.zero.cells⟩]
          | 13 => N = []
          | 14 => ∃ b, val 12 = .pointer (some ⟨b, 0, none⟩) ∧ N = [⟨b, 0, .cel 33, uE2.cells⟩]
          | _ => N = []) (fun i => if i = 14 then [12] else []) [7, 14] (by kernel_rfl) (by kernel_rfl) (by kernel_rfl) ?_ (by rfl) (by decide) (by kernel_rfl) ?_ ?_ ?_ ?_ ?_
    · simp only [push_cast, seval, reduceCtorEq, subT]
    · intro i hi hiF
      replace hi : i < 16 := hi
      obtain rfl | rfl | rfl | rfl | rfl | rfl | rfl | rfl | rfl | rfl | rfl | rfl | rfl | rfl | rfl | rfl : i = 0 ∨ i = 1 ∨ i = 2 ∨ i = 3 ∨ i = 4 ∨ i = 5 ∨ i = 6 ∨ i = 7 ∨ i = 8 ∨ i = 9 ∨ i = 10 ∨ i = 11 ∨ i = 12 ∨ i = 13 ∨ i = 14 ∨ i = 15 := by omega
      all_goals first
        | exact .inl fun _ _ h => h
        | exact absurd (by decide) hiF
        | exact .inr (by kernel_rfl)
    · intro i o ho val val' h1 h2 hV
      have hi := (Array.getElem?_eq_some_iff.1 ho).1
      replace hi : i < 16 := hi
      obtain rfl | rfl | rfl | rfl | rfl | rfl | rfl | rfl | rfl | rfl | rfl | rfl | rfl | rfl | rfl | rfl : i = 0 ∨ i = 1 ∨ i = 2 ∨ i = 3 ∨ i = 4 ∨ i = 5 ∨ i = 6 ∨ i = 7 ∨ i = 8 ∨ i = 9 ∨ i = 10 ∨ i = 11 ∨ i = 12 ∨ i = 13 ∨ i = 14 ∨ i = 15 := by omega
      · first
          | exact trivial
          | exact hV
          | exact h1.trans hV
          | (rw [h1]; exact hV)
      · first
          | exact trivial
          | exact hV
          | exact h1.trans hV
          | (rw [h1]; exact hV)
      · first
          | exact trivial
          | exact hV
          | exact h1.trans hV
          | (rw [h1]; exact hV)
      · first
          | exact trivial
          | exact hV
          | exact h1.trans hV
          | (rw [h1]; exact hV)
      · first
          | exact trivial
          | exact hV
          | exact h1.trans hV
          | (rw [h1]; exact hV)
      · first
          | exact trivial
          | exact hV
          | exact h1.trans hV
          | (rw [h1]; exact hV)
      · first
          | exact trivial
          | exact hV
          | exact h1.trans hV
          | (rw [h1]; exact hV)
      · first
          | exact trivial
          | exact hV
          | exact h1.trans hV
          | (rw [h1]; exact hV)
      · simp only [List.getElem?_toArray, List.getElem?_cons_zero, List.getElem?_cons_succ, Option.some.injEq] at ho; subst ho
        have h5 := h2 7 (by kernel_rfl)
        obtain ⟨a1, a2⟩ := hV
        exact ⟨by rw [h1, h5]; exact a1, by rw [h5]; exact a2⟩
      · simp only [List.getElem?_toArray, List.getElem?_cons_zero, List.getElem?_cons_succ, Option.some.injEq] at ho; subst ho
        have h6 := h2 8 (by kernel_rfl)
        obtain ⟨p, k, a1, a2⟩ := hV
        exact ⟨p, k, by rw [h1]; exact a1, by rw [h6, h1]; exact a2⟩
      · first
          | exact trivial
          | exact hV
          | exact h1.trans hV
          | (rw [h1]; exact hV)
      · first
          | exact trivial
          | exact hV
          | exact h1.trans hV
          | (rw [h1]; exact hV)
      · first
          | exact trivial
          | exact hV
          | exact h1.trans hV
          | (rw [h1]; exact hV)
      · simp only [List.getElem?_toArray, List.getElem?_cons_zero, List.getElem?_cons_succ, Option.some.injEq] at ho; subst ho
        have h6 := h2 9 (by kernel_rfl)
        obtain ⟨p, k, a1, a2⟩ := hV
        exact ⟨p, k, by rw [h1]; exact a1, by rw [h6, h1]; exact a2⟩
      · first
          | exact trivial
          | exact hV
          | exact h1.trans hV
          | (rw [h1]; exact hV)
      · first
          | exact trivial
          | exact hV
          | exact h1.trans hV
          | (rw [h1]; exact hV)
    · intro i o ho val val' N h1 h2 hQ
      have hi := (Array.getElem?_eq_some_iff.1 ho).1
      replace hi : i < 16 := hi
      obtain rfl | rfl | rfl | rfl | rfl | rfl | rfl | rfl | rfl | rfl | rfl | rfl | rfl | rfl | rfl | rfl : i = 0 ∨ i = 1 ∨ i = 2 ∨ i = 3 ∨ i = 4 ∨ i = 5 ∨ i = 6 ∨ i = 7 ∨ i = 8 ∨ i = 9 ∨ i = 10 ∨ i = 11 ∨ i = 12 ∨ i = 13 ∨ i = 14 ∨ i = 15 := by omega
      · first
          | exact trivial
          | exact hQ
          | exact h1.trans hQ
          | (rw [h1]; exact hQ)
      · first
          | exact trivial
          | exact hQ
          | exact h1.trans hQ
          | (rw [h1]; exact hQ)
      · first
          | exact trivial
          | exact hQ
          | exact h1.trans hQ
          | (rw [h1]; exact hQ)
      · first
          | exact trivial
          | exact hQ
          | exact h1.trans hQ
          | (rw [h1]; exact hQ)
      · first
          | exact trivial
          | exact hQ
          | exact h1.trans hQ
          | (rw [h1]; exact hQ)
      · first
          | exact trivial
          | exact hQ
          | exact h1.trans hQ
          | (rw [h1]; exact hQ)
      · first
          | exact trivial
          | exact hQ
          | exact h1.trans hQ
          | (rw [h1]; exact hQ)
      · first
          | exact trivial
          | exact hQ
          | exact h1.trans hQ
          | (rw [h1]; exact hQ)
      · first
          | exact trivial
          | exact hQ
          | exact h1.trans hQ
          | (rw [h1]; exact hQ)
      · first
          | exact trivial
          | exact hQ
          | exact h1.trans hQ
          | (rw [h1]; exact hQ)
      · first
          | exact trivial
          | exact hQ
          | exact h1.trans hQ
          | (rw [h1]; exact hQ)
      · first
          | exact trivial
          | exact hQ
          | exact h1.trans hQ
          | (rw [h1]; exact hQ)
      · first
          | exact trivial
          | exact hQ
          | exact h1.trans hQ
          | (rw [h1]; exact hQ)
      · first
          | exact trivial
          | exact hQ
          | exact h1.trans hQ
          | (rw [h1]; exact hQ)
      · simp only [List.getElem?_toArray, List.getElem?_cons_zero, List.getElem?_cons_succ, Option.some.injEq] at ho; subst ho
        have h10 := h2 12 (by kernel_rfl)
        obtain ⟨b, a1, a3⟩ := hQ
        exact ⟨b, by rw [h10]; exact a1, a3⟩
      · first
          | exact trivial
          | exact hQ
          | exact h1.trans hQ
          | (rw [h1]; exact hQ)
    · intro i o ho T' Y val mem hT hdep hus hfr hY hmY hapY
      have hi := (Array.getElem?_eq_some_iff.1 ho).1
      replace hi : i < 16 := hi
      have y2 := hY _ _ fB2
      have hM0Y : ∀ b e, findE M2 b = some e → findE Y b = some e := fun b e h => hY b e (find_behind hL7 b e h)
      have t1 : getT T' 1 = some (.func (.func 29) #[] #[]) := hT.1
      have t2 : getT T' 2 = some (.pointer (some ⟨b2, 0, none⟩)) := hT.2.1
      have t3 : getT T' 3 = some (.slice p1 1 k1) := hT.2.2.1
      obtain rfl | rfl | rfl | rfl | rfl | rfl | rfl | rfl | rfl | rfl | rfl | rfl | rfl | rfl | rfl | rfl : i = 0 ∨ i = 1 ∨ i = 2 ∨ i = 3 ∨ i = 4 ∨ i = 5 ∨ i = 6 ∨ i = 7 ∨ i = 8 ∨ i = 9 ∨ i = 10 ∨ i = 11 ∨ i = 12 ∨ i = 13 ∨ i = 14 ∨ i = 15 := by omega
      · simp only [List.getElem?_toArray, List.getElem?_cons_zero, List.getElem?_cons_succ, Option.some.injEq] at ho; subst ho
        simp only [push_cast, seval, reduceCtorEq, List.flatMap_nil, List.flatMap_cons, List.append_nil, List.nil_append, t3]
        exact ⟨[], rfl, trivial, rfl, upd_self _ _ _, rfl⟩
      · simp only [List.getElem?_toArray, List.getElem?_cons_zero, List.getElem?_cons_succ, Option.some.injEq] at ho; subst ho
        simp only [push_cast, seval, reduceCtorEq, List.flatMap_nil, List.flatMap_cons, List.append_nil, List.nil_append, t2, y2]
        exact ⟨[], rfl, trivial, rfl, upd_self _ _ _, rfl⟩
      · simp only [List.getElem?_toArray, List.getElem?_cons_zero, List.getElem?_cons_succ, Option.some.injEq] at ho; subst ho
        simp only [push_cast, seval, reduceCtorEq, List.flatMap_nil, List.flatMap_cons, List.append_nil, List.nil_append, t1]
        exact ⟨[], rfl, trivial, rfl, upd_self _ _ _, rfl⟩
      · simp only [List.getElem?_toArray, List.getElem?_cons_zero, List.getElem?_cons_succ, Option.some.injEq] at ho; subst ho
        obtain ⟨v2, g2⟩ := hdep 2 (by kernel_rfl)
        replace g2 := g2 40 rfl
        rw [show val 2 = _ from v2] at g2
        simp only [push_cast, seval, reduceCtorEq, List.flatMap_nil, List.flatMap_cons, List.append_nil, List.nil_append, g2, kk1, ee1]
        exact ⟨[], rfl, trivial, rfl, upd_self _ _ _, rfl⟩
      · simp only [List.getElem?_toArray, List.getElem?_cons_zero, List.getElem?_cons_succ, Option.some.injEq] at ho; subst ho
        simp only [push_cast, seval, reduceCtorEq, List.flatMap_nil, List.flatMap_cons, List.append_nil, List.nil_append, t1]
        exact ⟨[], rfl, trivial, rfl, upd_self _ _ _, rfl⟩
      · simp only [List.getElem?_toArray, List.getElem?_cons_zero, List.getElem?_cons_succ, Option.some.injEq] at ho; subst ho
        obtain ⟨v4, g4⟩ := hdep 4 (by kernel_rfl)
        replace g4 := g4 42 rfl
        rw [show val 4 = _ from v4] at g4
        simp only [push_cast, seval, reduceCtorEq, List.flatMap_nil, List.flatMap_cons, List.append_nil, List.nil_append, g4, kk2, ee2]
        exact ⟨[], rfl, trivial, rfl, upd_self _ _ _, rfl⟩
      · simp only [List.getElem?_toArray, List.getElem?_cons_zero, List.getElem?_cons_succ, Option.some.injEq] at ho; subst ho
        obtain ⟨v1, g1⟩ := hdep 1 (by kernel_rfl)
        replace g1 := g1 39 rfl
        rw [show val 1 = _ from v1] at g1
        obtain ⟨v3, g3⟩ := hdep 3 (by kernel_rfl)
        replace g3 := g3 41 rfl
        rw [show val 3 = _ from v3] at g3
        obtain ⟨v5, g5⟩ := hdep 5 (by kernel_rfl)
        replace g5 := g5 43 rfl
        rw [show val 5 = _ from v5] at g5
        simp only [push_cast, seval, reduceCtorEq, List.flatMap_nil, List.flatMap_cons, List.append_nil, List.nil_append, g1, g3, g5]
        exact ⟨[], rfl, trivial, rfl, upd_self _ _ _, rfl⟩
      · simp only [List.getElem?_toArray, List.getElem?_cons_zero, List.getElem?_cons_succ, Option.some.injEq] at ho; subst ho
        obtain ⟨v0, g0⟩ := hdep 0 (by kernel_rfl)
        replace g0 := g0 38 rfl
        rw [show val 0 = _ from v0] at g0
        obtain ⟨v6, g6⟩ := hdep 6 (by kernel_rfl)
        replace g6 := g6 44 rfl
        rw [show val 6 = _ from v6] at g6
        simp only [push_cast, seval, reduceCtorEq, List.flatMap_nil, List.flatMap_cons, List.append_nil, List.nil_append, g0, g6]
        refine callS (M := M2) (by have := sdo_R (c := cE2) hs1 (by decide) (fun y hy => by rw [List.mem_singleton.1 hy]; decide); rw [doE2] at this; exact this) (DoR.rd _) hM0Y fun w N hw hm1 hf hq => ⟨N, rfl, hw, hm1, ?_, ?_⟩
        · obtain ⟨u, rfl, hq⟩ := hq
          obtain ⟨p1, k1, rfl⟩ := hq.slice
          exact ⟨p1, k1, by rw [upd_self]; rfl⟩
        · rw [upd_self]; exact ⟨hw, hm1, hq⟩
      · simp only [List.getElem?_toArray, List.getElem?_cons_zero, List.getElem?_cons_succ, Option.some.injEq] at ho; subst ho
        obtain ⟨v7, g7⟩ := hdep 7 (by kernel_rfl)
        replace g7 := g7 45 rfl
        have v70 := v7
        simp only [push_cast, seval, reduceCtorEq, List.flatMap_nil, List.flatMap_cons, List.append_nil, List.nil_append, g7]
        refine ⟨[], rfl, trivial, rfl, ⟨?_, ?_⟩, rfl⟩
        · simp [upd]
        · simpa [upd] using v70
      · simp only [List.getElem?_toArray, List.getElem?_cons_zero, List.getElem?_cons_succ, Option.some.injEq] at ho; subst ho
        obtain ⟨v8, g8⟩ := hdep 8 (by kernel_rfl)
        replace g8 := g8 37 rfl
        obtain ⟨v8, p, k, v7⟩ := v8
        have v8 : val 8 = _ := v8
        rw [v8, v7] at g8
        simp only [push_cast, seval, reduceCtorEq, List.flatMap_nil, List.flatMap_cons, List.append_nil, List.nil_append, g8]
        refine ⟨[], rfl, trivial, rfl, ⟨p, k, ?_, ?_⟩, rfl⟩
        · simp [upd]
        · simp [upd, v8, v7]
      · simp only [List.getElem?_toArray, List.getElem?_cons_zero, List.getElem?_cons_succ, Option.some.injEq] at ho; subst ho
        obtain ⟨v8, g8⟩ := hdep 8 (by kernel_rfl)
        replace g8 := g8 37 rfl
        obtain ⟨v8, p, k, v7⟩ := v8
        have v8 : val 8 = _ := v8
        rw [v8, v7] at g8
        simp only [push_cast, seval, reduceCtorEq, List.flatMap_nil, List.flatMap_cons, List.append_nil, List.nil_append, g8]
        exact ⟨[], rfl, trivial, rfl, upd_self _ _ _, rfl⟩
      · simp only [List.getElem?_toArray, List.getElem?_cons_zero, List.getElem?_cons_succ, Option.some.injEq] at ho; subst ho
        obtain ⟨v8, g8⟩ := hdep 8 (by kernel_rfl)
        replace g8 := g8 37 rfl
        obtain ⟨v8, p, k, v7⟩ := v8
        have v8 : val 8 = _ := v8
        rw [v8, v7] at g8
        simp only [push_cast, seval, reduceCtorEq, List.flatMap_nil, List.flatMap_cons, List.append_nil, List.nil_append, g8]
        exact ⟨[], rfl, trivial, rfl, upd_self _ _ _, rfl⟩
      · simp only [List.getElem?_toArray, List.getElem?_cons_zero, List.getElem?_cons_succ, Option.some.injEq] at ho; subst ho
        simp only [push_cast, seval, reduceCtorEq, List.flatMap_nil, List.flatMap_cons, List.append_nil, List.nil_append]
        intro b hf
        exact ⟨[_], rfl, ⟨trivial, trivial⟩, rfl, ⟨b, upd_self _ _ _⟩, b, upd_self _ _ _, rfl⟩
      · simp only [List.getElem?_toArray, List.getElem?_cons_zero, List.getElem?_cons_succ, Option.some.injEq] at ho; subst ho
        obtain ⟨v9, g9⟩ := hdep 9 (by kernel_rfl)
        replace g9 := g9 46 rfl
        obtain ⟨p, k, v9, -⟩ := v9
        have v9 : val 9 = _ := v9
        rw [v9] at g9
        simp only [push_cast, seval, reduceCtorEq, List.flatMap_nil, List.flatMap_cons, List.append_nil, List.nil_append, g9]
        refine ⟨[], rfl, trivial, rfl, ⟨p, k, ?_, ?_⟩, rfl⟩
        · simp [upd]
        · simp [upd, v9]
      · simp only [List.getElem?_toArray, List.getElem?_cons_zero, List.getElem?_cons_succ, Option.some.injEq] at ho; subst ho
        obtain ⟨v10, g10⟩ := hdep 10 (by kernel_rfl)
        replace g10 := g10 47 rfl
        rw [show val 10 = _ from v10] at g10
        obtain ⟨v12, g12⟩ := hdep 12 (by kernel_rfl)
        replace g12 := g12 10 rfl
        obtain ⟨b7, v12, hN⟩ := hus 12 (List.mem_singleton.2 rfl)
        have v12 : val 12 = _ := v12
        rw [v12] at g12
        simp only [push_cast, seval, reduceCtorEq, List.flatMap_nil, List.flatMap_cons, List.append_nil, List.nil_append, g10, g12, hN, List.cons_append, Ch.zero.len, (uE2).len, (show (uE2).cells.all oneC = true from rfl)]
        refine ⟨[_], rfl, ⟨trivial, trivial⟩, rfl, b7, ?_, rfl⟩
        · simp [upd, v12]
      · simp only [List.getElem?_toArray, List.getElem?_cons_zero, List.getElem?_cons_succ, Option.some.injEq] at ho; subst ho
        obtain ⟨v11, g11⟩ := hdep 11 (by kernel_rfl)
        replace g11 := g11 48 rfl
        rw [show val 11 = _ from v11] at g11
        simp only [push_cast, seval, reduceCtorEq, List.flatMap_nil, List.flatMap_cons, List.append_nil, List.nil_append, g11]
        exact ⟨[], rfl, trivial, rfl, upd_self _ _ _, rfl⟩
    · intro val mem hV hQ hap hwr
      obtain ⟨w7, m7, u7, hu7, hq7⟩ := hQ 7 (by decide)
      obtain ⟨b10, v12, hN14⟩ := hQ 14 (by decide)
      obtain ⟨p2, k2, v13, h913⟩ := hV 13 (by decide)
      obtain ⟨h8, -⟩ := hV 8 (by decide)
      obtain ⟨-, -, -, h98⟩ := hV 9 (by decide)
      have v15 : val 15 = .int .i64 0 := hV 15 (by decide)
      have v12 : val 12 = _ := v12
      have v13 : val 13 = _ := v13
      have h913 : val 9 = val 13 := h913
      have hu7 : val 7 = _ := hu7
      have h8 : val 8 = val 7 := h8
      have h98 : val 8 = .tuple #[val 9, uE2.v, .int .i64 0] := h98
      rw [h8, hu7, h913, v13] at h98
      have hs7 : u7 = .slice p2 1 k2 := by injection h98 with h; have h1 := congrArg Array.toList h; simp only [List.cons.injEq] at h1; exact h1.1
      subst hs7
      have hMM : List.flatMap mem [7, 14] ++ (⟨b7, 0, .cel 33, wU.cells⟩ :: ⟨b4, 0, .cel 33, uE5.cells⟩ :: ⟨b2, 0, .cel 25, adE.cells⟩ :: M2) = mem 7 ++ (⟨b10, 0, .cel 33, uE2.cells⟩ :: ⟨b7, 0, .cel 33, wU.cells⟩ :: ⟨b4, 0, .cel 33, uE5.cells⟩ :: ⟨b2, 0, .cel 25, adE.cells⟩ :: M2) := by
        simp only [List.flatMap_cons, List.flatMap_nil, List.append_nil, hN14, List.append_assoc, List.cons_append, List.nil_append]
      rw [hMM] at hap ⊢
      have a5 := freshN_apart hap w7
      have hap' := (List.pairwise_append.1 hap).2.1
      have a7 := freshN_apart (A := [⟨b10, 0, .cel 33, uE2.cells⟩]) hap' ⟨trivial, trivial⟩
      have q57 := freshN_sym a5
      have hb10 := a7.1
      simp only [push_cast, seval, reduceCtorEq] at hb10
      have f10 : fresh b10 (M2 ++ mem 7) := fresh_app_iff.2 ⟨hb10.2.2.2.2.2.2, q57.1⟩
      have f7 : fresh b7 (M2 ++ mem 7) := fresh_app_iff.2 ⟨f7, q57.2.1⟩
      have f4 : fresh b4 (M2 ++ mem 7) := fresh_app_iff.2 ⟨f4, q57.2.2.1⟩
      have f2 : fresh b2 (M2 ++ mem 7) := fresh_app_iff.2 ⟨f2, q57.2.2.2.1⟩
      have hg3 : Gr M2 (M2 ++ mem 7) := ⟨hm2, mem 7, rfl, w7, m7⟩
      have hs2 : StR [xE2] (.slice p2 1 k2) (M2 ++ mem 7) := StR.rd _ _ _ _ (cellsAt_swap (freshN_cons (freshN_cons (freshN_cons (freshN_cons a5))))) hq7
      have hs1 := hs1.ext hg3.ext
      have ht := ht.ext hg3.ext
      simp only [push_cast, seval, reduceCtorEq, v12, v13, v15]
      refine WpV.perm (H' := ⟨b10, 0, .cel 33, uE2.cells⟩ :: ⟨b7, 0, .cel 33, wU.cells⟩ :: ⟨b4, 0, .cel 33, uE5.cells⟩ :: ⟨b2, 0, .cel 25, adE.cells⟩ :: (M2 ++ mem 7)) ?_ ?_ ?_
      · exact List.perm_append_comm
      · simp [marks_append, marksOf, m7, hm2]
      refine WpV.slots [(1, .func (.func 29) #[] #[]), (2, .pointer (some ⟨b2, 0, none⟩)), (3, .slice p1 1 k1), (4, .pointer (some ⟨b4, 0, none⟩)), (5, .int .i64 0), (6, .slice pt 0 kt), (8, .int .i64 0), (9, .slice p2 1 k2), (10, .pointer (some ⟨b10, 0, none⟩)), (11, .int .i64 0)] (by simp only [push_cast, seval, reduceCtorEq]) ?_
      clear hq7
      generalize M2 ++ mem 7 = M3 at hg3 hs1 hs2 ht f10 f7 f4 f2 ⊢
      refine regO gV2_ok ?_
      simp only [push_cast, seval, reduceCtorEq, hb10, hb7, hb4]
      refine useL [_, _, _, _] (by have := sdo_R (c := cEo) hs1 (by decide) (fun y hy => by rw [List.mem_singleton.1 hy]; decide); rw [doEo] at this; exact this) (DoR.rd _) hg3.marks ⟨f10, f7, f4, f2, trivial⟩ fun w M4 hg4 hL4 hq => ?_
      obtain ⟨u, rfl, hx⟩ := hq
      have hx : StR [xE5] u M4 := hx
      obtain ⟨px, kx, rfl⟩ := hx.slice
      have hs1 := hs1.ext hg4.ext
      have hs2 := hs2.ext hg4.ext
      simp only [push_cast, seval, reduceCtorEq, hb10, hb7, hb4]
      intro b13 hb13
      obtain ⟨f10, f7, f4, f2, -⟩ := id hL4
      have f13 : fresh b13 M4 := hb13.2.2.2.2.2.2.2.2
      have hk4 : KonR M4 := (hg1.trans (hg2.trans (hg3.trans hg4))).ext.keep _ _ _ _ hk
      refine useP [_, _, _, _, _] (v := .tuple #[.string ⟨(keccK [192]).toArray⟩, .int .i64 0]) (fun M0 hr he => digest0_ok (hk4.congr he.symm) hr.marks) ⟨f13, f10, f7, f4, f2, trivial⟩ ?_
      simp only [push_cast, seval, reduceCtorEq, hb13, hb10, hb7, hb4]
      refine useL [_, _, _, _, _] (sfind_ok (a := adE) hs2 (by decide) (fun y hy => by rw [List.mem_singleton.1 hy]; decide)) (AcR.rd _) hg4.marks ⟨f13, f10, f7, f4, f2, trivial⟩ fun w M5 hg5 hL5 hq => ?_
      rw [findE2] at hq
      obtain ⟨sv, rfl, hsv⟩ := hq
      have hs1 := hs1.ext hg5.ext
      have hs2 := hs2.ext hg5.ext
      have ho := xE2.all1 sv hsv.one
      simp only [push_cast, seval, reduceCtorEq, hb13, hb10, hb7, hb4]
      intro b17 hb17
      simp only [push_cast, seval, reduceCtorEq, ho, hb17, hb13, hb10, hb7, hb4]
      intro b65 hb65
      simp only [push_cast, seval, reduceCtorEq, ho, hb65, hb17, hb13, hb10, hb7, hb4]
      obtain ⟨f13, f10, f7, f4, f2, -⟩ := id hL5
      have f17 : fresh b17 M5 := hb17.2.2.2.2.2.2.2.2.2.2
      have f65 : fresh b65 M5 := hb65.2.2.2.2.2.2.2.2.2.2.2.2
      have hX : Ext M5 (⟨b65, 0, .vec 31 27 1, (emptyAt Ad.zero).cells (.slice none 0 0)⟩ :: M5) := Ext.cons hg5.marks rfl f65
      have hz : StR [emptyAt Ad.zero] (.slice (some ⟨b65, 0, none⟩) 1 1) (⟨b65, 0, .vec 31 27 1, (emptyAt Ad.zero).cells (.slice none 0 0)⟩ :: M5) :=
        ⟨[(emptyAt Ad.zero, .slice none 0 0)], rfl, ⟨_, _, rfl, .inr ⟨b65, 0, rfl, by unfold cellsAt; simp only [findE, if_pos]; rfl⟩⟩, fun x hx => by rw [List.mem_singleton.1 hx]; exact ⟨none, 0, rfl, .inl rfl⟩⟩
      refine CallsV.pin (H' := [⟨b17, 0, .cel 31, xE2.cells sv⟩, ⟨b13, 0, .cel 33, Ch.zero.cells⟩, ⟨b10, 0, .cel 33, uE2.cells⟩, ⟨b7, 0, .cel 33, wU.cells⟩, ⟨b4, 0, .cel 33, uE5.cells⟩, ⟨b2, 0, .cel 25, adE.cells⟩] ++ (⟨b65, 0, .vec 31 27 1, (emptyAt Ad.zero).cells (.slice none 0 0)⟩ :: M5)) (List.perm_middle (l₁ := [⟨b17, 0, .cel 31, xE2.cells sv⟩, ⟨b13, 0, .cel 33, Ch.zero.cells⟩, ⟨b10, 0, .cel 33, uE2.cells⟩, ⟨b7, 0, .cel 33, wU.cells⟩, ⟨b4, 0, .cel 33, uE5.cells⟩, ⟨b2, 0, .cel 25, adE.cells⟩]) (a := ⟨b65, 0, .vec 31 27 1, (emptyAt Ad.zero).cells (.slice none 0 0)⟩) (l₂ := M5)).symm (by simp [marksOf, hg5.marks]) ?_
      refine useL [⟨b17, 0, .cel 31, xE2.cells sv⟩, ⟨b13, 0, .cel 33, Ch.zero.cells⟩, ⟨b10, 0, .cel 33, uE2.cells⟩, ⟨b7, 0, .cel 33, wU.cells⟩, ⟨b4, 0, .cel 33, uE5.cells⟩, ⟨b2, 0, .cel 25, adE.cells⟩] (M := ⟨b65, 0, .vec 31 27 1, (emptyAt Ad.zero).cells (.slice none 0 0)⟩ :: M5) (sset_R (x := xE2) hz (hsv.ext hX) (by decide)) (SetR.rd _) hX.marks (by refine ⟨?_, ?_, ?_, ?_, ?_, ?_, trivial⟩ <;> (simp only [push_cast, seval, reduceCtorEq, hb65]; assumption)) fun w M6 hg6 hL6 hq => ?_
      rw [setE0] at hq
      obtain ⟨u, rfl, hq⟩ := hq
      have hs1 := (hs1.ext hX).ext hg6.ext
      have hs2 := (hs2.ext hX).ext hg6.ext
      have hsv := (hsv.ext hX).ext hg6.ext
      simp only [push_cast, seval, reduceCtorEq, hb17, hb13, hb10, hb7, hb4]
      obtain ⟨ps, ks, rfl⟩ := hsv.slice
      have hsl : xE2.slots.length = 1 := rfl
      have hkl : (keccK [192]).length = 32 := keccK_len _
      have hks : (⟨(keccK [192]).toArray⟩ : ByteArray).size = 32 := hkl
      generalize hdg : (⟨(keccK [192]).toArray⟩ : ByteArray) = dg at hks ⊢
      refine WpV.slots [(1, .func (.func 29) #[] #[]), (2, .pointer (some ⟨b2, 0, none⟩)), (3, .slice p1 1 k1), (4, .pointer (some ⟨b4, 0, none⟩)), (5, .int .i64 0), (6, .slice pt 0 kt), (8, .int .i64 0), (9, .slice p2 1 k2), (11, .int .i64 0), (14, .int .i64 1), (15, .string dg), (16, .int .i64 0), (17, .pointer (some ⟨b17, 0, none⟩)), (19, .int .i64 1)] (by simp only [push_cast, seval, reduceCtorEq]) ?_
      refine regO gV2_ok ?_
      simp only [push_cast, seval, reduceCtorEq, hsl, hks, hb17, hb13, hb10, hb7, hb4]
      refine drawO gV2_ok Tryz.mix (Tryz.pl9 12) (by kernel_rfl) ?_
      have ce : (⟨1, adE, W.zero, W.zero, 0, .empty⟩ : Ch) = uE5 := rfl
      obtain ⟨g1, g2, -, -, g5, g6⟩ := Ac.get xE2 (.slice ps 1 ks)
      have gb : xE2.bal.cells = e5w.cells := rfl
      have va : ∀ w : W, Value.agg w.cells.toArray = w.v := fun _ => rfl
      have hdx : dg.extract 0 2 = ⟨#[29, 204]⟩ := by
        rw [← hdg]
        have h1 : ((⟨(keccK [192]).toArray⟩ : ByteArray).extract 0 2).data = (⟨#[29, 204]⟩ : ByteArray).data := by
          rw [ByteArray.data_extract]
          have h2 : List.extract (keccK [192]) 0 2 = [29, 204] := by
            rw [List.extract_eq_take_drop, List.drop_zero]; exact kecc_c0
          rw [List.extract_toArray, h2]
        exact congrArg ByteArray.mk h1
      obtain ⟨pz, kz, hpe, hsa⟩ := LiR.openC Sl.len (by decide) hsv
      rcases hsa with hsa | ⟨bs, fs, ds, kd, cs, rfl, hfs, hats⟩
      · cases hsa
      obtain ⟨hps1, hps2⟩ : ps = some ⟨bs, fs + ds, none⟩ ∧ ks = kz := by injection hpe with h1 h2 h3; exact ⟨h1, h3⟩
      subst hps1
      obtain ⟨q1, q2⟩ := hats 0 ⟨e1w, e2w⟩ rfl
      rw [Nat.zero_mul, Nat.add_zero] at q1 q2
      have q3 : List.take 4 (List.drop (ds + 4) cs) = e2w.cells := by
        have := congrArg (fun z => List.take 4 (List.drop 4 z)) q2
        rw [List.drop_take, List.take_take, List.drop_drop] at this
        exact this
      have q4 : ds + 4 + 4 ≤ cs.length := by omega
      obtain ⟨n17, n13, n10, n7, n4, n2, -⟩ := id hL6
      have m17 := (fresh_findS n17 hfs).2
      have m13 := (fresh_findS n13 hfs).2
      have m10 := (fresh_findS n10 hfs).2
      have m7 := (fresh_findS n7 hfs).2
      have m4 := (fresh_findS n4 hfs).2
      have m2 := (fresh_findS n2 hfs).2
      have o1 : fs ≤ fs + ds + 4 := by omega
      have o2 : fs + ds + 4 - fs = ds + 4 := by omega
      have o3 : fs + ds + 4 = fs + (ds + 4) := by omega
      simp only [List.append_eq, List.cons_append, List.nil_append]
      simp only [push_cast, seval, reduceCtorEq, hb17, hb13, hb10, hb7, hb4, ce, g1, g2, g5, g6, gb, va, k5, e5, kk2, ee2, hdx, hfs, m17, m13, m10, m7, m4, m2, o1, o2, q3, q4, hks]
      refine takeP8 [_, _, _, _, _, _] (v := .bool true) (fun MB hr he => empty_ok (x := emptyAt adE) (sv := .slice none 0 0) (M := MB) (LiR.nil MB 0) hr.marks) hL6 ?_
      simp only [push_cast, seval, reduceCtorEq, hb17, hb13, hb10, hb7, hb4, ce, g1, g2, g5, g6, gb, va, k5, e5, kk2, ee2, hdx, hfs, m17, m13, m10, m7, m4, m2, o1, o2, q3, q4, hks]
      refine takeP8 [_, _, _, _, _, _] (v := .bool true) (fun MB hr he => by have := sright_ok (StR.rd _ _ _ _ he.symm hs2) hr.marks (by decide); rw [rightS_iff.2 riE2] at this; exact this) hL6 ?_
      simp only [push_cast, seval, reduceCtorEq, hb17, hb13, hb10, hb7, hb4, ce, g1, g2, g5, g6, gb, va, k5, e5, kk2, ee2, hdx, hfs, m17, m13, m10, m7, m4, m2, o1, o2, q3, q4, hks]
      refine takeP8 [_, _, _, _, _, _] (v := .bool true) (fun MB hr he => by have := ssame_R hs2 hs2 (by decide) (by decide) (fun y hy => by rw [List.mem_singleton.1 hy]; decide) MB hr he; rw [decide_eq_true (show [xE2] = [xE2] from rfl)] at this; exact this) hL6 ?_
      simp only [push_cast, seval, reduceCtorEq, hb17, hb13, hb10, hb7, hb4, ce, g1, g2, g5, g6, gb, va, k5, e5, kk2, ee2, hdx, hfs, m17, m13, m10, m7, m4, m2, o1, o2, q3, q4, hks]
      refine takeP8 [_, _, _, _, _, _] (v := .bool false) (fun MB hr he => by have := ssame_R hs1 hs2 (by decide) (by decide) (fun y hy => by rw [List.mem_singleton.1 hy]; decide) MB hr he; rw [decide_eq_false (show ¬ [xE5] = [xE2] by decide)] at this; exact this) hL6 ?_
      simp only [push_cast, seval, reduceCtorEq, hb17, hb13, hb10, hb7, hb4, ce, g1, g2, g5, g6, gb, va, k5, e5, kk2, ee2, hdx, hfs, m17, m13, m10, m7, m4, m2, o1, o2, q3, q4, hks]
end Go.Proofs.YtpcjmmdgopihcaaGreatDoor
set_option linter.unusedSimpArgs false
set_option linter.unusedVariables false
namespace Go.Ev
theorem RiS.slN {s : List Ac} (h : RiS s) : ∀ y ∈ s, y.slots.length ≤ 1000000000000 := fun y hy => by have := (mayA_slots (h.may y hy)).len; omega
end Go.Ev
namespace Go.Proofs.YtpcjmmdgopihcaaGreatDoor
open Go Go.Ev Go.Proofs
set_option maxRecDepth 100000
set_option maxHeartbeats 4000000
theorem sdo_did {M : Hp} {s : List Ac} {v : Value} {c : Ch} (hv : StR s v M) (h : Did s c) : CallsR Tryz.prog 25 [v, c.v] M (DoR (doS s c)) :=
  sdo_R hv (by have := h.ri.len; omega) h.ri.slN
theorem sameS8_R {A : Hp} {s t : List Ac} {v u : Value} (h : RiS s) (ht : RiS t) (h1 : StR s v A) (h2 : StR t u A) : ∀ M0, roM M0 → cellsAt M0 = cellsAt A → CallsV Tryz.prog 15 [v, u] M0 (Ret0 (.bool (decide (s = t)))) := by
  intro M0 hr he
  have hl := h.len
  have hl2 := ht.len
  exact sameS_ok (StR.rd _ _ _ _ he.symm h1) (StR.rd _ _ _ _ he.symm h2) hr.marks (by omega) (by omega) (fun y hy => by have := (mayA_slots (h.may y hy)).len; omega) (fun y hy => by have := (mayA_slots (ht.may y hy)).len; omega)
theorem awk08_P {A : Hp} (hk : KonR A) : ∀ M0, roM M0 → cellsAt M0 = cellsAt A → CallsV Tryz.prog 9 [] M0 (Ret0 (.bool true)) := fun M0 hr he => awk08_ok (hk.congr he.symm) hr.marks
end Go.Proofs.YtpcjmmdgopihcaaGreatDoor
