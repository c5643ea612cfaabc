/- Texts of this claim, merged by program: Ya Yb Yc Yd Yf Ua Ub Uc Ud Ue Uf Ug. -/
import Derived.Test.YtincedmdkdjakaaGreatZvAl
set_option linter.unusedSimpArgs false
set_option linter.unusedVariables false
namespace Go.Ev
structure Ky where
  at_ : Ad
  slot : Bool
  key : W
theorem Ky.ext {x y : Ky} (h1 : x.at_ = y.at_) (h2 : x.slot = y.slot) (h3 : x.key = y.key) : x = y := by
  cases x; cases y; cases h1; cases h2; cases h3; rfl
instance : DecidableEq Ky := fun x y => if h : x.at_ = y.at_ ∧ x.slot = y.slot ∧ x.key = y.key then .isTrue (Ky.ext h.1 h.2.1 h.2.2) else .isFalse fun e => h (by rw [e]; exact ⟨rfl, rfl, rfl⟩)
noncomputable def Ky.lt (x y : Ky) : Prop := x.at_.num < y.at_.num ∨ (x.at_.num = y.at_.num ∧ ((x.slot = false ∧ y.slot = true) ∨ (x.slot = y.slot ∧ x.key.num < y.key.num)))
theorem Ky.lt_irr (x : Ky) : ¬ x.lt x := by
  rintro (h | ⟨-, ⟨h1, h2⟩ | ⟨-, h⟩⟩)
  · omega
  · rw [h1] at h2; cases h2
  · omega
theorem Ky.lt_trans {x y z : Ky} (h1 : x.lt y) (h2 : y.lt z) : x.lt z := by
  rcases h1 with h1 | ⟨e1, h1⟩ <;> rcases h2 with h2 | ⟨e2, h2⟩
  · exact .inl (by omega)
  · exact .inl (by omega)
  · exact .inl (by omega)
  · refine .inr ⟨by omega, ?_⟩
    rcases h1 with ⟨a1, a2⟩ | ⟨a1, a2⟩ <;> rcases h2 with ⟨b1, b2⟩ | ⟨b1, b2⟩
    · rw [a2] at b1; cases b1
    · exact .inl ⟨a1, by rw [← b1]; exact a2⟩
    · exact .inl ⟨by rw [a1]; exact b1, b2⟩
    · exact .inr ⟨a1.trans b1, by omega⟩
theorem Ky.tri (x y : Ky) : x.lt y ∨ x = y ∨ y.lt x := by
  rcases Nat.lt_trichotomy x.at_.num y.at_.num with h | h | h
  · exact .inl (.inl h)
  · have ha := Ad.num_inj h
    cases hx : x.slot <;> cases hy : y.slot
    · rcases Nat.lt_trichotomy x.key.num y.key.num with h2 | h2 | h2
      · exact .inl (.inr ⟨h, .inr ⟨by rw [hx, hy], h2⟩⟩)
      · exact .inr (.inl (Ky.ext ha (by rw [hx, hy]) (W.num_inj h2)))
      · exact .inr (.inr (.inr ⟨h.symm, .inr ⟨by rw [hx, hy], h2⟩⟩))
    · exact .inl (.inr ⟨h, .inl ⟨hx, hy⟩⟩)
    · exact .inr (.inr (.inr ⟨h.symm, .inl ⟨hy, hx⟩⟩))
    · rcases Nat.lt_trichotomy x.key.num y.key.num with h2 | h2 | h2
      · exact .inl (.inr ⟨h, .inr ⟨by rw [hx, hy], h2⟩⟩)
      · exact .inr (.inl (Ky.ext ha (by rw [hx, hy]) (W.num_inj h2)))
      · exact .inr (.inr (.inr ⟨h.symm, .inr ⟨by rw [hx, hy], h2⟩⟩))
  · exact .inr (.inr (.inl h))
theorem Ky.lt_asymm {x y : Ky} (h1 : x.lt y) (h2 : y.lt x) : False := x.lt_irr (Ky.lt_trans h1 h2)
theorem Ky.lt_ne {x y : Ky} (h : x.lt y) : x ≠ y := fun e => by rw [e] at h; exact y.lt_irr h
structure Ce where
  key : Ky
  bal : W
  nonce : Int
  code : ByteArray
  val : W
theorem Ce.ext {x y : Ce} (h1 : x.key = y.key) (h2 : x.bal = y.bal) (h3 : x.nonce = y.nonce) (h4 : x.code = y.code) (h5 : x.val = y.val) : x = y := by
  cases x; cases y; cases h1; cases h2; cases h3; cases h4; cases h5; rfl
instance : DecidableEq Ce := fun x y => if h : x.key = y.key ∧ x.bal = y.bal ∧ x.nonce = y.nonce ∧ x.code = y.code ∧ x.val = y.val then .isTrue (Ce.ext h.1 h.2.1 h.2.2.1 h.2.2.2.1 h.2.2.2.2) else .isFalse fun e => h (by rw [e]; exact ⟨rfl, rfl, rfl, rfl, rfl⟩)
structure Vi where
  base : List Ac
  reads : List Ky
  writes : List Ky
  cells : List Ce
def mayC (c : Ce) : Prop := if c.key.slot = true then c.bal = W.zero ∧ c.nonce = 0 ∧ c.code = .empty else c.key.key = W.zero ∧ c.val = W.zero ∧ 0 ≤ c.nonce ∧ c.nonce ≤ 9007199254740992 ∧ c.code.size ≤ 24576
def mayKy (k : Ky) : Prop := k.slot = true ∨ k.key = W.zero
def rightKs (l : List Ky) : Prop := (∀ k ∈ l, mayKy k) ∧ l.Pairwise Ky.lt ∧ l.length ≤ 200
def Vi.rd (v : Vi) (k : Ky) : Prop := k ∈ v.writes ∨ k ∈ v.reads
structure RiV (v : Vi) : Prop where
  may : ∀ c ∈ v.cells, mayC c
  wr : ∀ c ∈ v.cells, c.key ∈ v.writes
  srt : v.cells.Pairwise fun x y => x.key.lt y.key
  st : RiS v.base
  rk : rightKs v.reads
  wk : rightKs v.writes
def cellOf (l : List Ce) (k : Ky) : Option Ce := l.find? fun c => decide (c.key = k)
theorem cellOf_mem {l : List Ce} (h : l.Pairwise fun x y => x.key.lt y.key) {c : Ce} (hc : c ∈ l) : cellOf l c.key = some c := by
  induction l with
  | nil => cases hc
  | cons x r ih =>
    obtain ⟨h1, h2⟩ := List.pairwise_cons.1 h
    unfold cellOf
    rw [List.find?_cons]
    rcases List.mem_cons.1 hc with rfl | hc
    · simp
    · rw [decide_eq_false (Ky.lt_ne (h1 c hc))]
      exact ih h2 hc
theorem cellOf_some {l : List Ce} {k : Ky} {c : Ce} (h : cellOf l k = some c) : c ∈ l ∧ c.key = k := by
  unfold cellOf at h
  exact ⟨List.mem_of_find?_eq_some h, by simpa using List.find?_some h⟩
noncomputable def insC (c : Ce) : List Ce → List Ce
  | [] => [c]
  | x :: r => open Classical in if c.key.lt x.key then c :: x :: r else if x.key = c.key then c :: r else x :: insC c r
theorem insC_mem {c x : Ce} : ∀ {l : List Ce}, x ∈ insC c l → x = c ∨ x ∈ l
  | [], h => .inl (List.mem_singleton.1 h)
  | y :: r, h => by
    unfold insC at h
    split at h
    · exact (List.mem_cons.1 h)
    · split at h
      · rcases List.mem_cons.1 h with h | h
        · exact .inl h
        · exact .inr (List.mem_cons_of_mem _ h)
      · rcases List.mem_cons.1 h with h | h
        · exact .inr (by rw [h]; exact List.mem_cons_self ..)
        · exact (insC_mem h).imp id (List.mem_cons_of_mem _)
theorem insC_srt {c : Ce} : ∀ {l : List Ce}, (l.Pairwise fun x y => x.key.lt y.key) → (insC c l).Pairwise fun x y => x.key.lt y.key
  | [], _ => List.pairwise_singleton _ _
  | y :: r, h => by
    obtain ⟨h1, h2⟩ := List.pairwise_cons.1 h
    unfold insC
    split
    · rename_i hlt
      refine List.pairwise_cons.2 ⟨fun z hz => ?_, h⟩
      rcases List.mem_cons.1 hz with rfl | hz
      · exact hlt
      · exact Ky.lt_trans hlt (h1 z hz)
    · rename_i hn
      split
      · rename_i he
        exact List.pairwise_cons.2 ⟨fun z hz => by rw [← he]; exact h1 z hz, h2⟩
      · rename_i hne
        refine List.pairwise_cons.2 ⟨fun z hz => ?_, insC_srt h2⟩
        rcases insC_mem hz with rfl | hz
        · rcases Ky.tri z.key y.key with h | h | h
          · exact absurd h hn
          · exact absurd h.symm hne
          · exact h
        · exact h1 z hz
end Go.Ev
set_option linter.unusedSimpArgs false
set_option linter.unusedVariables false
namespace Go.Ev
noncomputable def readB (s : List Ac) (k : Ky) : Ce := if k.slot = true then ⟨k, W.zero, 0, .empty, getW (findS s k.at_).slots k.key⟩ else ⟨k, (findS s k.at_).bal, (findS s k.at_).nonce, (findS s k.at_).code, W.zero⟩
noncomputable def appC (x : Ac) (c : Ce) : Ac × Int := if c.key.slot = true then (⟨x.at_, x.bal, x.nonce, x.code, (mergeR x.slots [⟨c.key.key, c.val⟩]).1⟩, (mergeR x.slots [⟨c.key.key, c.val⟩]).2) else (⟨x.at_, c.bal, c.nonce, c.code, x.slots⟩, 0)
structure Put (s : List Ac) (c : Ce) : Prop where
  ri : RiS s
  mc : mayC c
  ok : (appC (findS s c.key.at_) c).2 = 0
  may : mayA (appC (findS s c.key.at_) c).1 = true
  len : (putS s (appC (findS s c.key.at_) c).1).length ≤ 200
noncomputable def stC (s : List Ac) (c : Ce) : List Ac := putS s (appC (findS s c.key.at_) c).1
inductive Puts : List Ac → List Ce → Prop
  | nil {s : List Ac} (h : RiS s) : Puts s []
  | cons {s : List Ac} {c : Ce} {l : List Ce} (h : Put s c) (hl : Puts (stC s c) l) : Puts s (c :: l)
end Go.Ev
set_option linter.unusedSimpArgs false
set_option linter.unusedVariables false
namespace Go.Ev
noncomputable def goM : List Ac → List Ce → List Ac × Int
  | s, [] => (s, 0)
  | s, c :: r => if (appC (findS s c.key.at_) c).2 = 0 then (if (setS s (appC (findS s c.key.at_) c).1).2 = 0 then goM (setS s (appC (findS s c.key.at_) c).1).1 r else ([], (setS s (appC (findS s c.key.at_) c).1).2)) else ([], (appC (findS s c.key.at_) c).2)
end Go.Ev
set_option linter.unusedSimpArgs false
set_option linter.unusedVariables false
namespace Go.Ev
open Classical in
noncomputable def readV (v : Vi) (k : Ky) : Ce × Int := if RiV v then (if v.rd k then ((cellOf v.cells k).getD (readB v.base k), 0) else (⟨k, W.zero, 0, .empty, W.zero⟩, 30)) else (⟨k, W.zero, 0, .empty, W.zero⟩, 1)
noncomputable def slotV (v : Vi) (a : Ad) (q : W) : W × Int := ((readV v ⟨a, true, q⟩).1.val, (readV v ⟨a, true, q⟩).2)
noncomputable def accV (v : Vi) (a : Ad) : Ac × Int := if (readV v ⟨a, false, W.zero⟩).2 = 0 then (⟨a, (readV v ⟨a, false, W.zero⟩).1.bal, (readV v ⟨a, false, W.zero⟩).1.nonce, (readV v ⟨a, false, W.zero⟩).1.code, []⟩, 0) else (⟨Ad.zero, W.zero, 0, .empty, []⟩, (readV v ⟨a, false, W.zero⟩).2)
open Classical in
noncomputable def putV (v : Vi) (c : Ce) : Vi × Int := if RiV v ∧ mayC c then (if c.key ∈ v.writes then (⟨v.base, v.reads, v.writes, insC c v.cells⟩, 0) else (v, 30)) else (v, 1)
open Classical in
noncomputable def openV (s : List Ac) (R W' : List Ky) : Vi × Int := if RiV ⟨s, R, W', []⟩ then (⟨s, R, W', []⟩, 0) else (⟨[], [], [], []⟩, 1)
open Classical in
noncomputable def mergeV (s : List Ac) (v : Vi) : List Ac × Int := if RiS s ∧ RiV v then goM s v.cells else ([], 1)
theorem RiV.put {v : Vi} (h : RiV v) {c : Ce} (hm : mayC c) (hw : c.key ∈ v.writes) : RiV ⟨v.base, v.reads, v.writes, insC c v.cells⟩ := by
  refine ⟨fun x hx => ?_, fun x hx => ?_, insC_srt h.srt, h.st, h.rk, h.wk⟩
  · rcases insC_mem hx with rfl | hx
    · exact hm
    · exact h.may x hx
  · rcases insC_mem hx with rfl | hx
    · exact hw
    · exact h.wr x hx
theorem RiV.read1 {v : Vi} (h : RiV v) {k : Ky} (hk : v.rd k) : readV v k = ((cellOf v.cells k).getD (readB v.base k), 0) := by
  unfold readV
  rw [if_pos h, if_pos hk]
theorem RiV.read0 {v : Vi} (h : RiV v) {k : Ky} (hk : ¬ v.rd k) : readV v k = (⟨k, W.zero, 0, .empty, W.zero⟩, 30) := by
  unfold readV
  rw [if_pos h, if_neg hk]
theorem putV_ri {v : Vi} (h : RiV v) (c : Ce) : RiV (putV v c).1 := by
  unfold putV
  split
  · rename_i hc
    split
    · rename_i hw; exact h.put hc.2 hw
    · exact h
  · exact h
end Go.Ev
set_option linter.unusedSimpArgs false
set_option linter.unusedVariables false
namespace Go.Ev
def Ky.cells (k : Ky) : List Value := k.at_.cells ++ (.bool k.slot :: k.key.cells)
def Ky.v (k : Ky) : Value := .agg k.cells.toArray
theorem Ky.len (k : Ky) : k.cells.length = 25 := by unfold Ky.cells; rw [List.length_append, k.at_.len]; rfl
theorem Ky.take25 (k : Ky) : List.take 25 k.cells = k.cells := List.take_of_length_le (Nat.le_of_eq k.len)
theorem Ky.take20 (k : Ky) : List.take 20 k.cells = k.at_.cells := by
  unfold Ky.cells
  rw [List.take_append_of_le_length (by rw [k.at_.len]; exact Nat.le_refl _), k.at_.take20]
theorem Ky.drop20 (k : Ky) : List.drop 20 k.cells = .bool k.slot :: k.key.cells := by
  unfold Ky.cells
  rw [List.drop_append, k.at_.drop20, k.at_.len]; rfl
theorem Ky.slot1 (k : Ky) : List.take 1 (List.drop 20 k.cells) = [.bool k.slot] := by rw [k.drop20]; rfl
theorem Ky.key4 (k : Ky) : List.take 4 (List.drop 21 k.cells) = k.key.cells := by
  rw [show (21 : Nat) = 20 + 1 from rfl, ← List.drop_drop, k.drop20, List.drop_succ_cons, List.drop_zero]
  exact List.take_of_length_le (Nat.le_of_eq rfl)
theorem Ky.all1 (k : Ky) : k.cells.all oneC = true := by
  unfold Ky.cells
  rw [List.all_append, k.at_.all1]; rfl
theorem Ky.agg (k : Ky) : Value.agg k.cells.toArray = k.v := rfl
theorem Ky.v_cells (k : Ky) : k.v.cells = k.cells.toArray := rfl
theorem Ky.cells_inj {x y : Ky} (h : x.cells = y.cells) : x = y := by
  have h1 := congrArg (List.take 20) h
  have h2 := congrArg (List.drop 20) h
  rw [x.take20, y.take20] at h1
  rw [x.drop20, y.drop20] at h2
  simp only [List.cons.injEq, Value.bool.injEq] at h2
  exact Ky.ext (Ad.v_inj (congrArg (fun l : List Value => Value.agg l.toArray) h1)) h2.1 (W.cells_inj h2.2)
theorem Ky.v_inj {x y : Ky} (h : x.v = y.v) : x = y := by
  unfold Ky.v at h
  simp only [Value.agg.injEq] at h
  exact Ky.cells_inj (by simpa using congrArg Array.toList h)
noncomputable def kyOf (v : Value) : Option Ky := @dite (Option Ky) (∃ x : Ky, x.v = v) (Classical.propDecidable _) (fun h => some (Classical.choose h)) (fun _ => none)
theorem kyOf_v (x : Ky) : kyOf x.v = some x := by
  unfold kyOf
  rw [dif_pos ⟨x, rfl⟩]
  exact congrArg some (Ky.v_inj (Classical.choose_spec (⟨x, rfl⟩ : ∃ y : Ky, y.v = x.v)))
theorem kyOf_some {v : Value} {x : Ky} (h : kyOf v = some x) : v = x.v := by
  unfold kyOf at h
  split at h
  · rename_i hx
    rw [← Option.some.inj h]
    exact (Classical.choose_spec hx).symm
  · cases h
def kindY : List CK := List.replicate 20 .i ++ ([.b] ++ [.i, .i, .i, .i])
theorem Ky.eqC (x y : Ky) : eqC kindY x.cells y.cells = some (decide (x = y)) := by
  have h1 := eqC_cat (Ad.eqC x.at_ y.at_) (eqC_cat (show Ev.eqC [.b] [.bool x.slot] [.bool y.slot] = some ((x.slot == y.slot) && true) from rfl) (W.eqC x.key y.key))
  unfold kindY
  show Ev.eqC _ (x.at_.cells ++ ([.bool x.slot] ++ x.key.cells)) (y.at_.cells ++ ([.bool y.slot] ++ y.key.cells)) = _
  rw [h1]
  congr 1
  rw [Bool.eq_iff_iff, decide_eq_true_eq]
  simp only [Bool.and_eq_true, beq_iff_eq, decide_eq_true_eq, and_true]
  exact ⟨fun ⟨a1, a2, a3⟩ => Ky.ext a1 a2 a3, fun h => by rw [h]; exact ⟨rfl, rfl, rfl⟩⟩
theorem Ky.eqV {P : Program} {t : TypeId} (x y : Ky) (h1 : tyI P t = some (25, true)) (h2 : P.eqGuardType P.depth t = false) (h3 : flatK P 12 t = some kindY) : eqV P t x.v y.v = some (decide (x = y)) := by
  unfold Ev.eqV Ky.v
  simp only [h1, h2, h3, Bool.false_eq_true, if_false, Option.bind_some]
  exact Ky.eqC x y
def Ce.cells (c : Ce) : List Value := c.key.cells ++ (c.bal.cells ++ ([.int .i64 c.nonce, .string c.code] ++ c.val.cells))
def Ce.v (c : Ce) : Value := .agg c.cells.toArray
theorem Ce.len (c : Ce) : c.cells.length = 35 := by unfold Ce.cells; rw [List.length_append, c.key.len]; rfl
theorem Ce.all1 (c : Ce) : c.cells.all oneC = true := by
  unfold Ce.cells
  rw [List.all_append, c.key.all1]; rfl
def kindC : List CK := kindY ++ ([.i, .i, .i, .i] ++ ([.i, .s] ++ [.i, .i, .i, .i]))
theorem Ce.eqC (x y : Ce) : eqC kindC x.cells y.cells = some (decide (x = y)) := by
  have h1 := eqC_cat (Ky.eqC x.key y.key) (eqC_cat (W.eqC x.bal y.bal) (eqC_cat (show Ev.eqC [.i, .s] [.int .i64 x.nonce, .string x.code] [.int .i64 y.nonce, .string y.code] = some ((x.nonce == y.nonce) && ((x.code.toList == y.code.toList) && true)) from rfl) (W.eqC x.val y.val)))
  unfold kindC Ce.cells
  rw [h1, code_eq]
  congr 1
  rw [Bool.eq_iff_iff, decide_eq_true_eq]
  simp only [Bool.and_eq_true, beq_iff_eq, decide_eq_true_eq, and_true]
  exact ⟨fun ⟨a1, a2, ⟨a3, a4⟩, a5⟩ => Ce.ext a1 a2 a3 a4 a5, fun h => by rw [h]; exact ⟨rfl, rfl, ⟨rfl, rfl⟩, rfl⟩⟩
theorem Ce.eqV {P : Program} {t : TypeId} (x y : Ce) (h1 : tyI P t = some (35, true)) (h2 : P.eqGuardType P.depth t = false) (h3 : flatK P 12 t = some kindC) : eqV P t x.v y.v = some (decide (x = y)) := by
  unfold Ev.eqV Ce.v
  simp only [h1, h2, h3, Bool.false_eq_true, if_false, Option.bind_some]
  exact Ce.eqC x y
open Classical in
noncomputable def ordY : Ky → Ky → Int := hid fun x y => if x.lt y then -1 else if y.lt x then 1 else 0
theorem ordY_lt {x y : Ky} (h : x.lt y) : ordY x y = -1 := by unfold ordY; rw [hid_eq, if_pos h]
theorem ordY_gt {x y : Ky} (h : y.lt x) : ordY x y = 1 := by unfold ordY; rw [hid_eq, if_neg (fun h2 => Ky.lt_asymm h h2), if_pos h]
theorem ordY_eq (x : Ky) : ordY x x = 0 := by unfold ordY; rw [hid_eq, if_neg x.lt_irr, if_neg x.lt_irr]
noncomputable def ordYG : List Value → Option Value
  | [x, y] => (kyOf x).bind fun a => (kyOf y).bind fun b => some (.int .i64 (ordY a b))
  | _ => none
def KsR (l : List Ky) : Value → Hp → Prop := fun v H => LiR Ky.cells 25 H l v
def CsR (l : List Ce) : Value → Hp → Prop := fun v H => LiR Ce.cells 35 H l v
def ViR (x : Vi) : Value → Hp → Prop := fun v H => ∃ vb vr vw vc, v = .agg #[vb, vr, vw, vc] ∧ StR x.base vb H ∧ KsR x.reads vr H ∧ KsR x.writes vw H ∧ CsR x.cells vc H
theorem ViR.rd (x : Vi) : RdOnly (ViR x) := by
  rintro v A B h ⟨vb, vr, vw, vc, rfl, h1, h2, h3, h4⟩
  exact ⟨vb, vr, vw, vc, rfl, StR.rd _ _ _ _ h h1, h2.congr h, h3.congr h, h4.congr h⟩
theorem ViR.ext {x : Vi} {v : Value} {H H' : Hp} (h : Ext H H') (hv : ViR x v H) : ViR x v H' := by
  obtain ⟨vb, vr, vw, vc, rfl, h1, h2, h3, h4⟩ := hv
  exact ⟨vb, vr, vw, vc, rfl, h1.ext h, LiR.ext h h2, LiR.ext h h3, LiR.ext h h4⟩
end Go.Ev
set_option linter.unusedSimpArgs false
set_option linter.unusedVariables false
namespace Go.Ev
attribute [push_cast] Ky.len Ky.take25 Ky.slot1 Ky.key4 Ky.all1 Ky.agg Ky.v_cells kyOf_v Ce.len Ce.all1
theorem Ky.at1 (k : Ky) {i : Nat} (h : i < 20) : List.take 1 (List.drop i k.cells) = [.int .u8 ((k.at_.l[i]'(by rw [k.at_.hl]; exact h)).toNat : Nat)] := by
  have hi : i < k.at_.l.length := by rw [k.at_.hl]; exact h
  have hb : i < (byteV k.at_.l).length := by rw [byteV_lenA]; exact hi
  unfold Ky.cells Ad.cells
  rw [List.drop_append_of_le_length (by omega), List.take_append_of_le_length (by rw [List.length_drop]; omega)]
  unfold byteV
  rw [← List.map_drop, ← List.map_take, List.drop_eq_getElem_cons hi, List.take_succ_cons, List.take_zero, List.map_cons, List.map_nil]
theorem Ky.lt_at {x y : Ky} {i : Nat} (h : i < 20) (ht : x.at_.l.take i = y.at_.l.take i) (hlt : (x.at_.l[i]'(by rw [x.at_.hl]; exact h)).toNat < (y.at_.l[i]'(by rw [y.at_.hl]; exact h)).toNat) : x.lt y := by
  refine .inl ?_
  rw [x.at_.num_eq, y.at_.num_eq]
  exact (numB_first (fun e => by rw [e] at hlt; omega) i (by rw [x.at_.hl, y.at_.hl]) ht (List.getElem?_eq_getElem (by rw [x.at_.hl]; exact h)) (List.getElem?_eq_getElem (by rw [y.at_.hl]; exact h))).2 hlt
theorem Ky.lt_slot {x y : Ky} (ha : x.at_ = y.at_) (hx : x.slot = false) (hy : y.slot = true) : x.lt y := .inr ⟨by rw [ha], .inl ⟨hx, hy⟩⟩
theorem Ky.lt_key {x y : Ky} (ha : x.at_ = y.at_) (hs : x.slot = y.slot) : x.lt y ↔ x.key.num < y.key.num := by
  constructor
  · rintro (h | ⟨-, ⟨h1, h2⟩ | ⟨-, h⟩⟩)
    · rw [ha] at h; omega
    · rw [hs, h2] at h1; cases h1
    · exact h
  · intro h
    exact .inr ⟨by rw [ha], .inr ⟨hs, h⟩⟩
theorem ordY_key {x y : Ky} (ha : x.at_ = y.at_) (hs : x.slot = y.slot) : ordY x y = x.key.cmp y.key := by
  unfold W.cmp
  by_cases h1 : x.key.num < y.key.num
  · rw [if_pos h1, ordY_lt ((Ky.lt_key ha hs).2 h1)]
  · rw [if_neg h1]
    by_cases h2 : y.key.num < x.key.num
    · rw [if_pos h2, ordY_gt ((Ky.lt_key ha.symm hs.symm).2 h2)]
    · rw [if_neg h2, Ky.ext ha hs (W.num_inj (by omega)), ordY_eq]
theorem ordY_neg {x y : Ky} : ordY x y < 0 ↔ x.lt y := by
  rcases Ky.tri x y with h | h | h
  · rw [ordY_lt h]; exact ⟨fun _ => h, fun _ => by decide⟩
  · rw [h, ordY_eq]; exact ⟨fun h => absurd h (by decide), fun h => absurd h y.lt_irr⟩
  · rw [ordY_gt h]; exact ⟨fun h => absurd h (by decide), fun h2 => (Ky.lt_asymm h h2).elim⟩
theorem ordY_zero {x y : Ky} : ordY x y = 0 ↔ x = y := by
  rcases Ky.tri x y with h | h | h
  · rw [ordY_lt h]; exact ⟨fun h => absurd h (by decide), fun e => absurd h (by rw [e]; exact y.lt_irr)⟩
  · rw [h, ordY_eq]; exact ⟨fun _ => rfl, fun _ => rfl⟩
  · rw [ordY_gt h]; exact ⟨fun h => absurd h (by decide), fun e => absurd h (by rw [e]; exact y.lt_irr)⟩
theorem ordY_pos {x y : Ky} : 0 < ordY x y ↔ y.lt x := by
  rcases Ky.tri x y with h | h | h
  · rw [ordY_lt h]; exact ⟨fun h => absurd h (by decide), fun h2 => (Ky.lt_asymm h h2).elim⟩
  · rw [h, ordY_eq]; exact ⟨fun h => absurd h (by decide), fun h => absurd h y.lt_irr⟩
  · rw [ordY_gt h]; exact ⟨fun _ => h, fun _ => by decide⟩
attribute [push_cast] ordYG
def Ky.may (k : Ky) : Bool := k.slot || decide (k.key = W.zero)
noncomputable def kymayG : List Value → Option Value
  | [x] => (kyOf x).bind fun a => some (.bool a.may)
  | _ => none
attribute [push_cast] kymayG
theorem Ky.may_iff (k : Ky) : k.may = true ↔ mayKy k := by
  unfold Ky.may mayKy
  rw [Bool.or_eq_true, decide_eq_true_eq]
theorem kybin_some {g : Ky → Ky → Value} {f : List Value → Option Value} (hf : f = fun l => match l with | [x, y] => (kyOf x).bind fun a => (kyOf y).bind fun b => some (g a b) | _ => none) {args : List Value} {v : Value} (h : f args = some v) : ∃ x y : Ky, args = [x.v, y.v] ∧ v = g x y := by
  subst hf
  dsimp only at h
  split at h
  · rename_i x y
    cases hx : kyOf x with
    | none => simp [hx] at h
    | some a =>
      cases hy : kyOf y with
      | none => simp [hx, hy] at h
      | some b => simp [hx, hy] at h; exact ⟨a, b, by rw [kyOf_some hx, kyOf_some hy], h.symm⟩
  · cases h
theorem take_eq_succ {a b : List UInt8} {i : Nat} (h : a.take i = b.take i) (ha : i < a.length) (hb : i < b.length) (he : a[i].toNat = b[i].toNat) : a.take (i + 1) = b.take (i + 1) := by
  rw [List.take_succ_eq_append_getElem ha, List.take_succ_eq_append_getElem hb, h, UInt8.toNat_inj.1 he]
theorem add3_sub (o a b c : Nat) : o + a + b + c - o = a + b + c := by omega
theorem le_add3 (o a b c : Nat) : o ≤ o + a + b + c := by omega
theorem le_add2 (o a b : Nat) : o ≤ o + a + b := by omega
attribute [push_cast] add3_sub le_add3 le_add2
noncomputable def stepP (k : Ky) (s : List Ky × Bool) (x : Ky) : List Ky × Bool :=
  if ordY k x = 0 then (s.1 ++ [x], true) else if ordY k x < 0 ∧ s.2 = false then (s.1 ++ [k] ++ [x], true) else (s.1 ++ [x], s.2)
noncomputable def foldP (k : Ky) (l : List Ky) : List Ky × Bool := l.foldl (stepP k) ([], false)
noncomputable def putK (l : List Ky) (k : Ky) : List Ky := if (foldP k l).2 then (foldP k l).1 else (foldP k l).1 ++ [k]
theorem foldP_take {k : Ky} {l : List Ky} {i : Nat} {x : Ky} (h : l[i]? = some x) : foldP k (l.take (i + 1)) = stepP k (foldP k (l.take i)) x := by
  obtain ⟨hi, hx⟩ := List.getElem?_eq_some_iff.1 h
  unfold foldP
  rw [List.take_succ_eq_append_getElem hi, List.foldl_append, hx]; rfl
theorem stepP_len (k : Ky) (s : List Ky × Bool) (x : Ky) : (stepP k s x).1.length + (if (stepP k s x).2 then 0 else 1) ≤ s.1.length + (if s.2 then 0 else 1) + 1 := by
  unfold stepP
  split
  · simp; first | done | (split <;> omega)
  · split
    · rename_i h; simp [h.2]
    · simp; first | done | omega
theorem foldP_len (k : Ky) : ∀ (l : List Ky) (s : List Ky × Bool), (l.foldl (stepP k) s).1.length + (if (l.foldl (stepP k) s).2 then 0 else 1) ≤ s.1.length + (if s.2 then 0 else 1) + l.length
  | [], s => Nat.le_refl _
  | x :: r, s => by
    have h1 := foldP_len k r (stepP k s x)
    have h2 := stepP_len k s x
    rw [List.foldl_cons, List.length_cons]
    omega
theorem putK_len (l : List Ky) (k : Ky) : (putK l k).length ≤ l.length + 1 := by
  have := foldP_len k l ([], false)
  unfold putK foldP
  split
  · rename_i h; rw [h] at this; simp at this; omega
  · rename_i h; simp [h] at this; simp; first | done | omega
theorem foldP_le (k : Ky) (l : List Ky) : (foldP k l).1.length ≤ l.length + 1 := by
  have := foldP_len k l ([], false)
  unfold foldP
  simp at this
  omega
theorem subH_drop {a : Ent} : ∀ {Y L : Hp}, fresh a.blk Y → subH L Y → subH (a :: L) Y
  | [], _, _, _ => trivial
  | e :: r, L, hf, hh => by
    refine ⟨by simp only [findE]; rw [if_neg hf.2.1]; exact hh.1, ?_⟩
    simp only [remE]
    rw [if_neg hf.2.1]
    exact subH_drop hf.2.2 hh.2
theorem sub_new {N X : Hp} (h1 : marksOf N = []) (h2 : marksOf X = []) : N.Sublist (dropM (N ++ X)) := by
  rw [dropM_eq (by rw [marks_append, h1, h2]; rfl)]
  exact List.sublist_append_left _ _
theorem keyC_one (k : Ky) : [k].flatMap Ky.cells = k.cells := by simp
theorem keyC_app (l m : List Ky) : (l ++ m).flatMap Ky.cells = l.flatMap Ky.cells ++ m.flatMap Ky.cells := List.flatMap_append
noncomputable def setK (l : List Ky) : List Ky := l.foldl putK []
theorem setK_take {l : List Ky} {i : Nat} {x : Ky} (h : l[i]? = some x) : setK (l.take (i + 1)) = putK (setK (l.take i)) x := by
  obtain ⟨hi, hx⟩ := List.getElem?_eq_some_iff.1 h
  unfold setK
  rw [List.take_succ_eq_append_getElem hi, List.foldl_append, hx]; rfl
theorem setK_len (l : List Ky) : (setK l).length ≤ l.length := by
  have h : ∀ (l s : List Ky), (l.foldl putK s).length ≤ s.length + l.length := by
    intro l
    induction l with
    | nil => intro s; exact Nat.le_refl _
    | cons x r ih =>
      intro s
      have h1 := ih (putK s x)
      have h2 := putK_len s x
      rw [List.foldl_cons, List.length_cons]
      omega
  have := h l []
  simpa [setK] using this
theorem pw_adj {α : Type} {R : α → α → Prop} (ht : ∀ x y z, R x y → R y z → R x z) : ∀ {l : List α}, (∀ (i : Nat) x y, l[i]? = some x → l[i + 1]? = some y → R x y) → l.Pairwise R
  | [], _ => List.Pairwise.nil
  | [x], _ => List.pairwise_singleton _ _
  | x :: y :: r, h => by
    have ih : (y :: r).Pairwise R := pw_adj ht fun i a b ha hb => h (i + 1) a b (by simpa using ha) (by simpa using hb)
    have h0 : R x y := h 0 x y rfl rfl
    refine List.pairwise_cons.2 ⟨fun z hz => ?_, ih⟩
    rcases List.mem_cons.1 hz with rfl | hz
    · exact h0
    · exact ht _ _ _ h0 ((List.pairwise_cons.1 ih).1 z hz)
theorem pw_at {α : Type} {R : α → α → Prop} {l : List α} (h : l.Pairwise R) {i j : Nat} {x y : α} (hij : i < j) (hx : l[i]? = some x) (hy : l[j]? = some y) : R x y := by
  obtain ⟨h1, rfl⟩ := List.getElem?_eq_some_iff.1 hx
  obtain ⟨h2, rfl⟩ := List.getElem?_eq_some_iff.1 hy
  exact List.pairwise_iff_getElem.1 h i j h1 h2 hij
noncomputable def pB (p : Prop) : Bool := @decide p (Classical.propDecidable _)
theorem pB_t {p : Prop} (h : p) : pB p = true := by unfold pB; exact @decide_eq_true p (Classical.propDecidable _) h
theorem pB_f {p : Prop} (h : ¬ p) : pB p = false := by unfold pB; exact @decide_eq_false p (Classical.propDecidable _) h
theorem pB_iff {p : Prop} : pB p = true ↔ p := ⟨fun h => by unfold pB at h; exact @of_decide_eq_true p (Classical.propDecidable _) h, pB_t⟩
theorem pB_not {p : Prop} : pB p = false ↔ ¬ p := ⟨fun h hp => by (rw [pB_t hp] at h; cases h), pB_f⟩
theorem pB_dec {p : Prop} [Decidable p] : pB p = decide p := by
  by_cases h : p
  · rw [pB_t h, decide_eq_true h]
  · rw [pB_f h, decide_eq_false h]
def okK (l : List Ky) (i : Nat) : Prop := ∀ x, l[i]? = some x → mayKy x ∧ ∀ y, 0 < i → l[i - 1]? = some y → y.lt x
theorem okK_end {l : List Ky} (h : ∀ i, i < l.length → okK l i) : rightKs l ↔ l.length ≤ 200 := by
  refine ⟨fun hr => hr.2.2, fun hn => ⟨fun k hk => ?_, ?_, hn⟩⟩
  · obtain ⟨i, hi⟩ := List.getElem?_of_mem hk
    exact (h i (List.getElem?_eq_some_iff.1 hi).1 k hi).1
  · refine pw_adj (R := Ky.lt) (fun _ _ _ h h2 => Ky.lt_trans h h2) fun i x y hx hy => ?_
    exact (h (i + 1) (List.getElem?_eq_some_iff.1 hy).1 y hy).2 x (Nat.succ_pos _) (by simpa using hx)
theorem okK_bad {l : List Ky} {i : Nat} (h : ¬ okK l i) : ¬ rightKs l := by
  rintro ⟨h1, h2, -⟩
  refine h fun x hx => ⟨h1 x (List.mem_of_getElem? hx), fun y h0 hy => pw_at h2 (by omega) hy hx⟩
def okC (v : Vi) (i : Nat) : Prop := ∀ c, v.cells[i]? = some c → mayC c ∧ c.key ∈ v.writes ∧ ∀ y, 0 < i → v.cells[i - 1]? = some y → y.key.lt c.key
theorem okC_end {v : Vi} (h : ∀ i, i < v.cells.length → okC v i) : RiV v ↔ RiS v.base ∧ rightKs v.reads ∧ rightKs v.writes := by
  refine ⟨fun hr => ⟨hr.st, hr.rk, hr.wk⟩, fun ⟨h1, h2, h3⟩ => ⟨fun c hc => ?_, fun c hc => ?_, ?_, h1, h2, h3⟩⟩
  · obtain ⟨i, hi⟩ := List.getElem?_of_mem hc
    exact (h i (List.getElem?_eq_some_iff.1 hi).1 c hi).1
  · obtain ⟨i, hi⟩ := List.getElem?_of_mem hc
    exact (h i (List.getElem?_eq_some_iff.1 hi).1 c hi).2.1
  · refine pw_adj (R := fun x y : Ce => x.key.lt y.key) (fun _ _ _ h h' => Ky.lt_trans h h') fun i x y hx hy => ?_
    exact (h (i + 1) (List.getElem?_eq_some_iff.1 hy).1 y hy).2.2 x (Nat.succ_pos _) (by simpa using hx)
theorem okC_bad {v : Vi} {i : Nat} (h : ¬ okC v i) : ¬ RiV v := fun hr =>
  h fun c hc => ⟨hr.may c (List.mem_of_getElem? hc), hr.wr c (List.mem_of_getElem? hc), fun y h0 hy => pw_at hr.srt (by omega) hy hc⟩
end Go.Ev
set_option linter.unusedSimpArgs false
set_option linter.unusedVariables false
namespace Go.Proofs.YtincedmdkdjakaaGreat
open Go Go.Ev Go.Proofs
set_option maxRecDepth 100000
set_option maxHeartbeats 4000000
theorem ky_ty : tyI Tryz.prog 45 = some (25, true) := by kernel_rfl
theorem ky_gd : Tryz.prog.eqGuardType Tryz.prog.depth 45 = false := by kernel_rfl
theorem ky_fl : flatK Tryz.prog 12 45 = some kindY := by kernel_rfl
theorem ky_eql (x y : Ky) : binQ Tryz.prog .eql 45 x.v y.v = some (.bool (decide (x = y))) := by
  show (Ev.eqV Tryz.prog 45 x.v y.v).map Value.bool = _
  rw [Ky.eqV x y ky_ty ky_gd ky_fl]; rfl
theorem ky_neq (x y : Ky) : binQ Tryz.prog .neq 45 x.v y.v = some (.bool (!decide (x = y))) := by
  show (Ev.eqV Tryz.prog 45 x.v y.v).map (fun r => Value.bool !r) = _
  rw [Ky.eqV x y ky_ty ky_gd ky_fl]; rfl
theorem ce_ty : tyI Tryz.prog 74 = some (35, true) := by kernel_rfl
theorem ce_gd : Tryz.prog.eqGuardType Tryz.prog.depth 74 = false := by kernel_rfl
theorem ce_fl : flatK Tryz.prog 12 74 = some kindC := by kernel_rfl
theorem ce_eql (x y : Ce) : binQ Tryz.prog .eql 74 x.v y.v = some (.bool (decide (x = y))) := by
  show (Ev.eqV Tryz.prog 74 x.v y.v).map Value.bool = _
  rw [Ce.eqV x y ce_ty ce_gd ce_fl]; rfl
theorem ce_neq (x y : Ce) : binQ Tryz.prog .neq 74 x.v y.v = some (.bool (!decide (x = y))) := by
  show (Ev.eqV Tryz.prog 74 x.v y.v).map (fun r => Value.bool !r) = _
  rw [Ce.eqV x y ce_ty ce_gd ce_fl]; rfl
attribute [push_cast high] ky_eql ky_neq ce_eql ce_neq
theorem rorder_ok (x y : Ky) : CallsV Tryz.prog 70 [x.v, y.v] [] (Ret0 (.int .i64 (ordY x y))) := by
  refine callsO gV2_ok Tryz.mix (fun i => if i = 1 then [(0, 9)] else Tryz.pl70 i) Tryz.func70 rfl Tryz.ntmps70 Tryz.results70 rfl (by first | rfl | assumption) (Nat.le_of_ble_eq_true rfl) (by kernel_rfl) ?_
  simp only [push_cast, seval, reduceCtorEq]
  intro b2 b3 hb3
  refine regO gV2_ok ?_
  simp only [push_cast, seval, reduceCtorEq, hb3]
  refine loopO gV2_ok (pl := Tryz.pl70) Tryz.mix (X := Nat)
    (fun i => ([(2, .pointer (some ⟨b2, 0, none⟩)), (3, .pointer (some ⟨b3, 0, none⟩)), (5, .int .i64 i)],
      [⟨b3, 0, .cel 45, y.cells⟩, ⟨b2, 0, .cel 45, x.cells⟩]))
    (fun i => i ≤ 20 ∧ x.at_.l.take i = y.at_.l.take i) (fun i => 20 - i) 0 ?_ ?_ (by kernel_rfl) ?_
  · exact ⟨Nat.zero_le _, rfl⟩
  · simp only [push_cast, seval, reduceCtorEq, hb3]
  · rintro i ⟨hi, ht⟩
    dsimp only at hi ht ⊢
    rcases Nat.lt_or_ge i 20 with hlt | hge
    · have i1 : (i : Int) < 20 := by omega
      have i2 : i + 1 ≤ 25 := by omega
      have ax := x.at1 hlt
      have ay := y.at1 hlt
      have hx : i < x.at_.l.length := by rw [x.at_.hl]; exact hlt
      have hy : i < y.at_.l.length := by rw [y.at_.hl]; exact hlt
      rcases Nat.lt_trichotomy x.at_.l[i].toNat y.at_.l[i].toNat with h | h | h
      · rw [ordY_lt (Ky.lt_at hlt ht h)]
        simp only [push_cast, seval, reduceCtorEq, hb3, i1, i2, ax, ay, h]
      · have h1 : ¬ x.at_.l[i].toNat < y.at_.l[i].toNat := by omega
        have h2 : ¬ y.at_.l[i].toNat < x.at_.l[i].toNat := by omega
        simp only [push_cast, seval, reduceCtorEq, hb3, i1, i2, ax, ay, h1, h2, wrap_i64' (show -9223372036854775808 ≤ (i : Int) + 1 ∧ (i : Int) + 1 ≤ 9223372036854775807 by omega)]
        exact ⟨i + 1, ⟨by omega, take_eq_succ ht hx hy h⟩, by omega, rfl⟩
      · have h1 : ¬ x.at_.l[i].toNat < y.at_.l[i].toNat := by omega
        rw [ordY_gt (Ky.lt_at hlt ht.symm h)]
        simp only [push_cast, seval, reduceCtorEq, hb3, i1, i2, ax, ay, h1, h]
    · obtain rfl : i = 20 := by omega
      have ha : x.at_.l = y.at_.l := by
        rw [List.take_of_length_le (by rw [x.at_.hl]; exact Nat.le_refl _), List.take_of_length_le (by rw [y.at_.hl]; exact Nat.le_refl _)] at ht
        exact ht
      cases hx : x.slot <;> cases hy : y.slot
      · rw [ordY_key (Ad.ext ha) (by rw [hx, hy])]
        simp only [push_cast, seval, reduceCtorEq, hb3, hx, hy]
      · rw [ordY_lt (Ky.lt_slot (Ad.ext ha) hx hy)]
        simp only [push_cast, seval, reduceCtorEq, hb3, hx, hy]
      · rw [ordY_gt (Ky.lt_slot (Ad.ext ha.symm) hy hx)]
        simp only [push_cast, seval, reduceCtorEq, hb3, hx, hy]
      · rw [ordY_key (Ad.ext ha) (by rw [hx, hy])]
        simp only [push_cast, seval, reduceCtorEq, hb3, hx, hy]
theorem rordG_ok (args : List Value) (v : Value) (h : ordYG args = some v) : CallsV Tryz.prog 70 args [] (Ret0 v) := by
  obtain ⟨x, y, rfl, rfl⟩ := kybin_some (g := fun a b => .int .i64 (ordY a b)) (by funext l; rfl) h
  exact rorder_ok x y
theorem rkmay_ok (k : Ky) : CallsV Tryz.prog 76 [k.v] [] (Ret0 (.bool k.may)) := by
  unfold Ky.may
  refine callsO gV2_ok Tryz.mix (fun i => if i = 1 then [(0, 9)] else Tryz.pl76 i) Tryz.func76 rfl Tryz.ntmps76 Tryz.results76 rfl (by first | rfl | assumption) (Nat.le_of_ble_eq_true rfl) (by kernel_rfl) ?_
  simp only [push_cast, seval, reduceCtorEq]
  intro b1
  refine regO gV2_ok ?_
  cases hs : k.slot
  · simp only [push_cast, seval, reduceCtorEq, hs, Bool.false_or]
  · simp only [push_cast, seval, reduceCtorEq, hs, Bool.true_or]
theorem kymayG_ok (args : List Value) (v : Value) (h : kymayG args = some v) : CallsV Tryz.prog 76 args [] (Ret0 v) := by
  unfold kymayG at h
  split at h
  · rename_i x
    cases hx : kyOf x with
    | none => simp [hx] at h
    | some a => simp only [hx, Option.bind_some, Option.some.injEq] at h; rw [kyOf_some hx, ← h]; exact rkmay_ok a
  · cases h
noncomputable def gU0 : Gam := (addG 76 kymayG (addG 70 ordYG gV2))
attribute [push_cast] gU0
theorem gU0_ok : GamOk Tryz.prog gU0 := (addG_ok kymayG_ok (addG_ok rordG_ok gV2_ok))
end Go.Proofs.YtincedmdkdjakaaGreat
set_option linter.unusedSimpArgs false
set_option linter.unusedVariables false
namespace Go.Proofs.YtincedmdkdjakaaGreat
open Go Go.Ev Go.Proofs
set_option maxRecDepth 100000
set_option maxHeartbeats 4000000
def plPutU : Plans := fun i => if i = 1 then [(0, 9)] else if i = 14 then [(0, 9)] else Tryz.pl111 i
attribute [push_cast] plPutU
abbrev OutKy (l : List Ky) (v : Value) (N : Hp) : Prop := OutC 45 25 (l.flatMap Ky.cells) l.length v N
theorem rput_ok {M : Hp} {l : List Ky} {v : Value} {k : Ky} (hv : LiR Ky.cells 25 M l v) (hm : marksOf M = []) (hn : l.length ≤ 1000000) : CallsV Tryz.prog 111 [v, k.v] M (OutKy (putK l k)) := by
  obtain ⟨p, c, rfl, hl⟩ := hv.open (fun x => x.len) (by decide)
  refine callsO gU0_ok Tryz.mix plPutU Tryz.func111 rfl Tryz.ntmps111 Tryz.results111 rfl (by first | rfl | assumption) (Nat.le_of_ble_eq_true rfl) (by kernel_rfl) ?_
  simp only [push_cast, seval, reduceCtorEq]
  intro b3 hb3
  refine regO gU0_ok ?_
  simp only [push_cast, seval, reduceCtorEq]
  refine loopO gU0_ok (pl := plPutU) Tryz.mix (X := Nat × Value × Hp)
    (fun s => ([(0, .slice p l.length c), (3, .pointer (some ⟨b3, 0, none⟩)), (5, s.2.1), (6, .bool (foldP k (l.take s.1)).2), (7, .int .i64 s.1)], s.2.2 ++ (⟨b3, 0, .cel 45, k.cells⟩ :: M)))
    (fun s => s.1 ≤ l.length ∧ OutKy (foldP k (l.take s.1)).1 s.2.1 s.2.2 ∧ freshN s.2.2 (⟨b3, 0, .cel 45, k.cells⟩ :: M)) (fun s => l.length - s.1) (0, .slice none 0 0, []) ?_ ?_ (by kernel_rfl) ?_
  · exact ⟨Nat.zero_le _, .nil _ _, trivial⟩
  · simp only [push_cast, seval, reduceCtorEq, List.take_zero]
    first | exact rfl | exact ⟨by first | rfl | exact ⟨rfl, subH_self _⟩⟩
  · rintro ⟨i, vo, No⟩ ⟨hi, ho, hf⟩
    dsimp only at hi ho hf ⊢
    have fb : ∀ {N : Hp}, freshN N (⟨b3, 0, .cel 45, k.cells⟩ :: M) → findE (N ++ (⟨b3, 0, .cel 45, k.cells⟩ :: M)) b3 = some ⟨b3, 0, .cel 45, k.cells⟩ := fun hf => by
      rw [findE_freshN hf (b := b3) (e := ⟨b3, 0, .cel 45, k.cells⟩) (by simp [findE])]; simp [findE]
    rcases Nat.lt_or_ge i l.length with hlt | hge
    · obtain ⟨x, hx⟩ : ∃ x, l[i]? = some x := ⟨l[i], List.getElem?_eq_getElem hlt⟩
      obtain h0 | ⟨b, f, d, kd, cs, rfl, he, hat, -, -⟩ := hl
      · rw [h0] at hlt; exact absurd hlt (Nat.not_lt_zero _)
      obtain ⟨a1, a2⟩ := hat i x hx 0 25 (Nat.le_refl _)
      rw [Nat.add_zero] at a1 a2
      rw [List.drop_zero, x.take25] at a2
      have hbb : ¬ b = b3 := (fresh_findS hb3 he).2
      have fl : ∀ {N : Hp}, freshN N (⟨b3, 0, .cel 45, k.cells⟩ :: M) → findE (N ++ (⟨b3, 0, .cel 45, k.cells⟩ :: M)) b = some ⟨b, f, kd, cs⟩ := fun hf => by
        have h1 : findE (⟨b3, 0, .cel 45, k.cells⟩ :: M) b = some ⟨b, f, kd, cs⟩ := by simp only [findE, if_neg hbb]; exact he
        rw [findE_freshN hf (b := b) h1]; exact h1
      have hst := foldP_take (k := k) hx
      have hle := foldP_le k (l.take i)
      have hlk : (l.take i).length ≤ 1000000 := by rw [List.length_take]; omega
      have i1 : (i : Int) < (l.length : Int) := by omega
      have fb0 := fb hf
      have fl0 := fl hf
      obtain ⟨n, hnn⟩ : ∃ n, n = ordY k x := ⟨_, rfl⟩
      unfold stepP at hst
      rw [← hnn] at hst
      have one : ∀ {y : Ky} {N : Hp} {X : Hp} {w : Value} {q : List Ky} {b15 : Nat} {K : Value → Hp → Prop}, OutKy q w N → q.length ≤ 1000002 → fresh b15 (N ++ X) →
          (∀ v' N', OutKy (q ++ [y]) v' N' → freshN N' (⟨b15, 0, .vec 45 25 1, y.cells⟩ :: X) → K v' (N' ++ ⟨b15, 0, .vec 45 25 1, y.cells⟩ :: X)) →
          evAppend Tryz.prog (⟨b15, 0, .vec 45 25 1, y.cells⟩ :: (N ++ X)) 28 28 w (.slice (some ⟨b15, 0, none⟩) 1 1) K := fun {y N X w q b15 K} hq hql hb hk => by
        refine append_out1 (e := 45) (sz := 25) (by_ := 56) (n := q.length) (m := 1) (ys := y.cells) hq hb (by simp only [push_cast, seval, reduceCtorEq]) (by simp only [push_cast, seval, reduceCtorEq]) y.len y.all1 (by unfold two47; omega) fun v' N' h1 h2 => hk v' N' ?_ h2
        unfold OutKy
        rw [keyC_app, keyC_one, List.length_append]
        exact h1
      rcases Int.lt_trichotomy n 0 with h | h | h
      · have e1 : (n == 0) = false := beq_eq_false_iff_ne.2 (by omega)
        rw [if_neg (by omega)] at hst
        cases hd : (foldP k (l.take i)).2
        · rw [if_pos ⟨h, hd⟩] at hst
          simp only [push_cast, seval, reduceCtorEq, i1, fb0, fl0, a1, a2, ← hnn, h, e1, hd]
          intro b15 hb15
          refine one (y := k) ho (by omega) hb15 fun v' N' ho' hf' => ?_
          have hfX := freshN_cons hf'
          have fl1 : findE (N' ++ ⟨b15, 0, .vec 45 25 1, k.cells⟩ :: ⟨b3, 0, .cel 45, k.cells⟩ :: M) b = some ⟨b, f, kd, cs⟩ := by
            have h1 : findE (⟨b15, 0, .vec 45 25 1, k.cells⟩ :: ⟨b3, 0, .cel 45, k.cells⟩ :: M) b = some ⟨b, f, kd, cs⟩ := by
              have := (fresh_findS hb15 fl0).2
              simp only [findE, if_neg this, if_neg hbb]; exact he
            rw [findE_freshN hf' (b := b) h1]; exact h1
          simp only [push_cast, seval, reduceCtorEq, i1, fl1, a1, a2]
          intro b16 hb16
          refine one (y := x) ho' (by rw [List.length_append]; simp; omega) hb16 fun v'' N'' ho'' hf'' => ?_
          simp only [push_cast, seval, reduceCtorEq, wrap_i64' (show -9223372036854775808 ≤ (i : Int) + 1 ∧ (i : Int) + 1 ≤ 9223372036854775807 by omega)]
          refine ⟨(i + 1, v'', N''), ⟨hlt, by dsimp only; rw [hst]; exact ho'', freshN_cons (freshN_cons hf'')⟩, by dsimp only; omega, ⟨rfl, by rw [hst]; exact ⟨rfl, rfl⟩⟩, ?_, ?_⟩
          · refine subH_pre ?_ _
            exact subH_drop (fresh_app hb16).2.2 (subH_cons (fresh_app hb15))
          · simp only [marks_append, marksOf, ho.wr.2, ho''.wr.2]
        · rw [if_neg (by rw [hd]; simp)] at hst
          simp only [push_cast, seval, reduceCtorEq, i1, fb0, fl0, a1, a2, ← hnn, h, e1, hd]
          intro b16 hb16
          refine one (y := x) ho (by omega) hb16 fun v'' N'' ho'' hf'' => ?_
          simp only [push_cast, seval, reduceCtorEq, wrap_i64' (show -9223372036854775808 ≤ (i : Int) + 1 ∧ (i : Int) + 1 ≤ 9223372036854775807 by omega)]
          exact ⟨(i + 1, v'', N''), ⟨hlt, by dsimp only; rw [hst]; exact ho'', freshN_cons hf''⟩, by dsimp only; omega, ⟨rfl, by rw [hst, hd], rfl⟩, subH_pre (subH_cons (fresh_app hb16)) _, by simp only [marks_append, marksOf, ho.wr.2, ho''.wr.2]⟩
      · have e1 : (n == 0) = true := by rw [h]; rfl
        rw [if_pos h] at hst
        have e2 : ¬ n < 0 := by omega
        simp only [push_cast, seval, reduceCtorEq, i1, fb0, fl0, a1, a2, ← hnn, e1, e2]
        intro b16 hb16
        refine one (y := x) ho (by omega) hb16 fun v'' N'' ho'' hf'' => ?_
        simp only [push_cast, seval, reduceCtorEq, wrap_i64' (show -9223372036854775808 ≤ (i : Int) + 1 ∧ (i : Int) + 1 ≤ 9223372036854775807 by omega)]
        exact ⟨(i + 1, v'', N''), ⟨hlt, by dsimp only; rw [hst]; exact ho'', freshN_cons hf''⟩, by dsimp only; omega, ⟨rfl, by rw [hst], rfl⟩, subH_pre (subH_cons (fresh_app hb16)) _, by simp only [marks_append, marksOf, ho.wr.2, ho''.wr.2]⟩
      · have e1 : (n == 0) = false := beq_eq_false_iff_ne.2 (by omega)
        rw [if_neg (by omega), if_neg (by omega)] at hst
        have e2 : ¬ n < 0 := by omega
        simp only [push_cast, seval, reduceCtorEq, i1, fb0, fl0, a1, a2, ← hnn, e1, e2]
        intro b16 hb16
        refine one (y := x) ho (by omega) hb16 fun v'' N'' ho'' hf'' => ?_
        simp only [push_cast, seval, reduceCtorEq, wrap_i64' (show -9223372036854775808 ≤ (i : Int) + 1 ∧ (i : Int) + 1 ≤ 9223372036854775807 by omega)]
        exact ⟨(i + 1, v'', N''), ⟨hlt, by dsimp only; rw [hst]; exact ho'', freshN_cons hf''⟩, by dsimp only; omega, ⟨rfl, by rw [hst], rfl⟩, subH_pre (subH_cons (fresh_app hb16)) _, by simp only [marks_append, marksOf, ho.wr.2, ho''.wr.2]⟩
    · obtain rfl : i = l.length := by omega
      have fb0 := fb hf
      rw [List.take_length] at ho ⊢
      have hle := foldP_le k l
      cases hd : (foldP k l).2
      · have hp : putK l k = (foldP k l).1 ++ [k] := by unfold putK; rw [hd]; rfl
        rw [hp]
        simp only [push_cast, seval, reduceCtorEq, Nat.lt_irrefl, hd]
        refine regO gU0_ok ?_
        simp only [push_cast, seval, reduceCtorEq, fb0]
        intro b16 hb16
        refine append_out1 (e := 45) (sz := 25) (by_ := 56) (n := (foldP k l).1.length) (m := 1) (ys := k.cells) ho hb16 (by simp only [push_cast, seval, reduceCtorEq]) (by simp only [push_cast, seval, reduceCtorEq]) k.len k.all1 (by unfold two47; omega) fun v'' N'' ho'' hf'' => ?_
        simp only [push_cast, seval, reduceCtorEq]
        refine ⟨N'', sub_new ho''.wr.2 (by simp only [marksOf, hm]), ?_⟩
        unfold OutKy
        rw [keyC_app, keyC_one, List.length_append]
        exact ho''
      · have hp : putK l k = (foldP k l).1 := by unfold putK; rw [hd]; rfl
        rw [hp]
        simp only [push_cast, seval, reduceCtorEq, Nat.lt_irrefl, hd]
        exact ⟨No, sub_new ho.wr.2 (by simp only [marksOf, hm]), ho⟩
theorem OutKy.newK {M0 : Hp} {l : List Ky} {v : Value} {N : Hp} (h : OutKy l v N) : NewK M0 (KsR l) v N := ⟨h.wr.1, h.wr.2, fun _ => h.liR rfl rfl M0⟩
theorem rput_R {M : Hp} {l : List Ky} {v : Value} {k : Ky} (hv : LiR Ky.cells 25 M l v) (hn : l.length ≤ 1000000) : CallsR Tryz.prog 111 [v, k.v] M (KsR (putK l k)) :=
  fun _ hr he => CallsV.toK (rput_ok (hv.congr he.symm) hr.marks hn) fun _ _ h => h.newK
theorem rset_ok {M : Hp} {l : List Ky} {v : Value} (hv : LiR Ky.cells 25 M l v) (hm : marksOf M = []) (hn : l.length ≤ 1000000) : CallsV Tryz.prog 77 [v] M (NewK M (KsR (setK l))) := by
  obtain ⟨p, c, rfl, hl⟩ := hv.open (fun x => x.len) (by decide)
  refine callsO gU0_ok Tryz.mix Tryz.pl77 Tryz.func77 rfl Tryz.ntmps77 Tryz.results77 rfl (by first | rfl | assumption) (Nat.le_of_ble_eq_true rfl) (by kernel_rfl) ?_
  simp only [push_cast, seval, reduceCtorEq]
  refine loopO gU0_ok (pl := Tryz.pl77) Tryz.mix (X := Nat × Value × Hp)
    (fun s => ([(0, .slice p l.length c), (3, s.2.1), (4, .int .i64 s.1)], s.2.2))
    (fun s => s.1 ≤ l.length ∧ Gr M s.2.2 ∧ KsR (setK (l.take s.1)) s.2.1 s.2.2) (fun s => l.length - s.1) (0, .slice none 0 0, M) ?_ ?_ (by kernel_rfl) ?_
  · exact ⟨Nat.zero_le _, .refl hm, .nil _ _⟩
  · simp only [push_cast, seval, reduceCtorEq]
    try exact subH_self _
  · rintro ⟨i, vo, M1⟩ ⟨hi, hx1, hq⟩
    dsimp only at hi hx1 hq ⊢
    rcases Nat.lt_or_ge i l.length with hlt | hge
    · obtain ⟨x, hx⟩ : ∃ x, l[i]? = some x := ⟨l[i], List.getElem?_eq_getElem hlt⟩
      obtain ⟨p1, c1, e1, hl1⟩ := (hv.ext hx1.ext).open (fun x => x.len) (by decide)
      simp only [Value.slice.injEq] at e1
      obtain ⟨rfl, -, rfl⟩ := e1
      obtain h0 | ⟨b, f, d, kd, cs, rfl, he, hat, -, -⟩ := hl1
      · rw [h0] at hlt; exact absurd hlt (Nat.not_lt_zero _)
      obtain ⟨a1, a2⟩ := hat i x hx 0 25 (Nat.le_refl _)
      rw [Nat.add_zero] at a1 a2
      rw [List.drop_zero, x.take25] at a2
      have i1 : (i : Int) < (l.length : Int) := by omega
      have hsl := setK_len (l.take i)
      have hlk : (l.take i).length ≤ 1000000 := by rw [List.length_take]; omega
      simp only [push_cast, seval, reduceCtorEq, i1, he, a1, a2]
      refine useL [] (rput_R hq (by omega)) (LiR.rd _) hx1.marks trivial fun v' M' hx2 _ hq' => ?_
      simp only [push_cast, seval, reduceCtorEq, wrap_i64' (show -9223372036854775808 ≤ (i : Int) + 1 ∧ (i : Int) + 1 ≤ 9223372036854775807 by omega)]
      exact ⟨(i + 1, v', M'), ⟨hlt, hx1.trans hx2, by dsimp only; rw [setK_take hx]; exact hq'⟩, by dsimp only; omega, ⟨rfl, rfl⟩, subH_self _, rfl⟩
    · obtain rfl : i = l.length := by omega
      rw [List.take_length] at hq
      simp only [push_cast, seval, reduceCtorEq, Nat.lt_irrefl]
      exact doneK (L := []) hx1 rfl (LiR.rd _) hq
theorem rset_R {M : Hp} {l : List Ky} {v : Value} (hv : LiR Ky.cells 25 M l v) (hn : l.length ≤ 1000000) : CallsR Tryz.prog 77 [v] M (KsR (setK l)) :=
  fun _ hr he => rset_ok (hv.congr he.symm) hr.marks hn
end Go.Proofs.YtincedmdkdjakaaGreat
set_option linter.unusedSimpArgs false
set_option linter.unusedVariables false
namespace Go.Proofs.YtincedmdkdjakaaGreat
open Go Go.Ev Go.Proofs
set_option maxRecDepth 100000
set_option maxHeartbeats 4000000
def SetQ (R W' : List Ky) : Value → Hp → Prop := fun v H => ∃ vr vw, v = .agg #[vr, vw] ∧ LiR Ky.cells 25 H R vr ∧ LiR Ky.cells 25 H W' vw
theorem SetQ.rd (R W' : List Ky) : RdOnly (SetQ R W') := by
  rintro v A B h ⟨vr, vw, rfl, h1, h2⟩
  exact ⟨vr, vw, rfl, h1.congr h, h2.congr h⟩
def MadeQ (R W' : List Ky) (e : Int) : Value → Hp → Prop := fun v H => ∃ u, v = .tuple #[u, .int .i64 e] ∧ SetQ R W' u H
theorem MadeQ.rd (R W' : List Ky) (e : Int) : RdOnly (MadeQ R W' e) := by
  rintro v A B h ⟨u, rfl, h1⟩
  exact ⟨u, rfl, SetQ.rd R W' _ A B h h1⟩
def plMkU : Plans := fun i => if i = 1 then [(0, 9)] else if i = 11 then [(0, 9)] else if i = 13 then [(0, 9)] else Tryz.pl39 i
attribute [push_cast] plMkU
theorem rmake_ok {M : Hp} {R W' : List Ky} {vr vw : Value} (hr : LiR Ky.cells 25 M R vr) (hw : LiR Ky.cells 25 M W' vw) (hm : marksOf M = []) (hrn : R.length ≤ 200) (hwn : W'.length ≤ 200) (hmr : ∀ k ∈ R, k.may = true) (hmw : ∀ k ∈ W', k.may = true) :
    CallsV Tryz.prog 39 [vr, vw] M (NewK M (MadeQ (setK R) (setK W') 0)) := by
  obtain ⟨pr, cr, rfl, hlr⟩ := hr.open (fun x => x.len) (by decide)
  obtain ⟨pw, cw, rfl, hlw⟩ := hw.open (fun x => x.len) (by decide)
  refine callsO gU0_ok Tryz.mix plMkU Tryz.func39 rfl Tryz.ntmps39 Tryz.results39 rfl (by first | rfl | assumption) (Nat.le_of_ble_eq_true rfl) (by kernel_rfl) ?_
  simp only [push_cast, seval, reduceCtorEq]
  intro b4 hb4
  refine regO gU0_ok ?_
  simp only [push_cast, seval, reduceCtorEq]
  intro b12 hb12
  refine loopO gU0_ok (pl := plMkU) Tryz.mix (X := Nat)
    (fun i => ([(0, .slice pr R.length cr), (1, .slice pw W'.length cw), (4, .pointer (some ⟨b4, 0, none⟩)), (12, .slice (some ⟨b12, 0, none⟩) 2 2), (13, .int .i64 2), (14, .int .i64 i)],
      ⟨b12, 0, .vec 28 1 2, [.slice pr R.length cr, .slice pw W'.length cw]⟩ :: ⟨b4, 0, .cel 30, [.slice none 0 0, .slice none 0 0]⟩ :: M))
    (fun i => i ≤ 2) (fun i => 2 - i) 0 ?_ ?_ (by kernel_rfl) ?_
  · exact Nat.zero_le _
  · simp only [push_cast, seval, reduceCtorEq, hb12]
    try exact subH_self _
  · intro i hi
    dsimp only at hi ⊢
    obtain rfl | rfl | rfl : i = 0 ∨ i = 1 ∨ i = 2 := by omega
    · simp only [push_cast, seval, reduceCtorEq, hb12]
      refine loopO gU0_ok (pl := plMkU) Tryz.mix (X := Nat)
        (fun j => ([(0, .slice pr R.length cr), (1, .slice pw W'.length cw), (4, .pointer (some ⟨b4, 0, none⟩)), (7, .slice pr R.length cr), (8, .int .i64 j), (12, .slice (some ⟨b12, 0, none⟩) 2 2), (13, .int .i64 2), (14, .int .i64 0)],
          ⟨b12, 0, .vec 28 1 2, [.slice pr R.length cr, .slice pw W'.length cw]⟩ :: ⟨b4, 0, .cel 30, [.slice none 0 0, .slice none 0 0]⟩ :: M))
        (fun j => j ≤ R.length) (fun j => R.length - j) 0 ?_ ?_ (by kernel_rfl) ?_
      · exact Nat.zero_le _
      · simp only [push_cast, seval, reduceCtorEq, hb12]
        try exact subH_self _
      · intro j hj
        dsimp only at hj ⊢
        rcases Nat.lt_or_ge j R.length with hlt | hge
        · obtain ⟨x, hx⟩ : ∃ x, R[j]? = some x := ⟨R[j], List.getElem?_eq_getElem hlt⟩
          obtain h0 | ⟨b, f, d, kd, cs, rfl, he, hat, -, -⟩ := hlr
          · rw [h0] at hlt; exact absurd hlt (Nat.not_lt_zero _)
          obtain ⟨a1, a2⟩ := hat j x hx 0 25 (Nat.le_refl _)
          rw [Nat.add_zero] at a1 a2
          rw [List.drop_zero, x.take25] at a2
          have n1 : ¬ b = b12 := (fresh_findS hb12.2.2 he).2
          have n2 : ¬ b = b4 := (fresh_findS hb4 he).2
          have i1 : (j : Int) < (R.length : Int) := by omega
          have hmy : x.may = true := hmr x (List.mem_of_getElem? hx)
          simp only [push_cast, seval, reduceCtorEq, i1, n1, n2, he, a1, a2, hmy, wrap_i64' (show -9223372036854775808 ≤ (j : Int) + 1 ∧ (j : Int) + 1 ≤ 9223372036854775807 by omega)]
          exact ⟨j + 1, hlt, by omega, by first | rfl | exact ⟨rfl, subH_self _⟩⟩
        · obtain rfl : j = R.length := by omega
          simp only [push_cast, seval, reduceCtorEq, Nat.lt_irrefl]
          exact ⟨1, by omega, by omega, by first | rfl | exact ⟨rfl, subH_self _⟩⟩
    · simp only [push_cast, seval, reduceCtorEq, hb12]
      refine loopO gU0_ok (pl := plMkU) Tryz.mix (X := Nat)
        (fun j => ([(0, .slice pr R.length cr), (1, .slice pw W'.length cw), (4, .pointer (some ⟨b4, 0, none⟩)), (7, .slice pw W'.length cw), (8, .int .i64 j), (12, .slice (some ⟨b12, 0, none⟩) 2 2), (13, .int .i64 2), (14, .int .i64 1)],
          ⟨b12, 0, .vec 28 1 2, [.slice pr R.length cr, .slice pw W'.length cw]⟩ :: ⟨b4, 0, .cel 30, [.slice none 0 0, .slice none 0 0]⟩ :: M))
        (fun j => j ≤ W'.length) (fun j => W'.length - j) 0 ?_ ?_ (by kernel_rfl) ?_
      · exact Nat.zero_le _
      · simp only [push_cast, seval, reduceCtorEq, hb12]
        try exact subH_self _
      · intro j hj
        dsimp only at hj ⊢
        rcases Nat.lt_or_ge j W'.length with hlt | hge
        · obtain ⟨x, hx⟩ : ∃ x, W'[j]? = some x := ⟨W'[j], List.getElem?_eq_getElem hlt⟩
          obtain h0 | ⟨b, f, d, kd, cs, rfl, he, hat, -, -⟩ := hlw
          · rw [h0] at hlt; exact absurd hlt (Nat.not_lt_zero _)
          obtain ⟨a1, a2⟩ := hat j x hx 0 25 (Nat.le_refl _)
          rw [Nat.add_zero] at a1 a2
          rw [List.drop_zero, x.take25] at a2
          have n1 : ¬ b = b12 := (fresh_findS hb12.2.2 he).2
          have n2 : ¬ b = b4 := (fresh_findS hb4 he).2
          have i1 : (j : Int) < (W'.length : Int) := by omega
          have hmy : x.may = true := hmw x (List.mem_of_getElem? hx)
          simp only [push_cast, seval, reduceCtorEq, i1, n1, n2, he, a1, a2, hmy, wrap_i64' (show -9223372036854775808 ≤ (j : Int) + 1 ∧ (j : Int) + 1 ≤ 9223372036854775807 by omega)]
          exact ⟨j + 1, hlt, by omega, by first | rfl | exact ⟨rfl, subH_self _⟩⟩
        · obtain rfl : j = W'.length := by omega
          simp only [push_cast, seval, reduceCtorEq, Nat.lt_irrefl]
          exact ⟨2, by omega, by omega, by first | rfl | exact ⟨rfl, subH_self _⟩⟩
    · simp only [push_cast, seval, reduceCtorEq, hb12]
      have hf1 : freshN [⟨b12, 0, .vec 28 1 2, [.slice pr R.length cr, .slice pw W'.length cw]⟩, ⟨b4, 0, .cel 30, [.slice none 0 0, .slice none 0 0]⟩] M := ⟨hb12.2.2, hb4, trivial⟩
      refine useL [_, _] (rset_R hr (by omega)) (LiR.rd _) hm hf1 fun v1 M1 hg1 hL1 hq1 => ?_
      simp only [push_cast, seval, reduceCtorEq]
      refine useL [_, _] (rset_R (hw.ext hg1.ext) (by omega)) (LiR.rd _) hg1.marks hL1 fun v2 M2 hg2 hL2 hq2 => ?_
      have hl1 := setK_len R
      have hl2 := setK_len W'
      have hq1' := hq1.ext hg2.ext
      have hqq : MadeQ (setK R) (setK W') 0 (.tuple #[.agg #[v1, v2], .int .i64 0]) M2 := ⟨_, rfl, v1, v2, rfl, hq1', hq2⟩
      obtain ⟨p1, c1, rfl, -⟩ := hq1'
      obtain ⟨p2, c2, rfl, -⟩ := hq2
      simp only [push_cast, seval, reduceCtorEq]
      intro b9 hb9
      refine regO gU0_ok ?_
      have j1 : ¬ (200 : Int) < ((setK R).length : Int) := by omega
      have j2 : ¬ (200 : Int) < ((setK W').length : Int) := by omega
      have j3 : ¬ 200 < (setK R).length := by omega
      have j4 : ¬ 200 < (setK W').length := by omega
      simp only [push_cast, seval, reduceCtorEq, hb9, j1, j2, j3, j4]
      refine regO gU0_ok ?_
      simp only [push_cast, seval, reduceCtorEq, hb9, hb12, j1, j2, j3, j4]
      exact doneK2 [_, _, _] (hg1.trans hg2) (MadeQ.rd _ _ _) hqq
theorem rmake_R {M : Hp} {R W' : List Ky} {vr vw : Value} (hr : LiR Ky.cells 25 M R vr) (hw : LiR Ky.cells 25 M W' vw) (hrn : R.length ≤ 200) (hwn : W'.length ≤ 200) (hmr : ∀ k ∈ R, k.may = true) (hmw : ∀ k ∈ W', k.may = true) :
    CallsR Tryz.prog 39 [vr, vw] M (MadeQ (setK R) (setK W') 0) :=
  fun _ h he => rmake_ok (hr.congr he.symm) (hw.congr he.symm) h.marks hrn hwn hmr hmw
end Go.Proofs.YtincedmdkdjakaaGreat
set_option linter.unusedSimpArgs false
set_option linter.unusedVariables false
namespace Go.Ev
theorem LiR.openY {l : List Ky} {H : Hp} {v : Value} (h : LiR Ky.cells 25 H l v) : ∃ p k, v = .slice p l.length k ∧ (l = [] ∨ ∃ b f d kd cs, p = some ⟨b, f + d, none⟩ ∧ findE H b = some ⟨b, f, kd, cs⟩ ∧
    ∀ i x, l[i]? = some x → d + i * 25 + 25 ≤ cs.length ∧ List.take 25 (List.drop (d + i * 25) cs) = x.cells) := LiR.openC (fun x => x.len) (by decide) h
theorem LiR.openE {l : List Ce} {H : Hp} {v : Value} (h : LiR Ce.cells 35 H l v) : ∃ p k, v = .slice p l.length k ∧ (l = [] ∨ ∃ b f d kd cs, p = some ⟨b, f + d, none⟩ ∧ findE H b = some ⟨b, f, kd, cs⟩ ∧
    ∀ i x, l[i]? = some x → d + i * 35 + 35 ≤ cs.length ∧ List.take 35 (List.drop (d + i * 35) cs) = x.cells) := LiR.openC (fun x => x.len) (by decide) h
end Go.Ev
namespace Go.Proofs.YtincedmdkdjakaaGreat
open Go Go.Ev Go.Proofs
set_option maxRecDepth 100000
set_option maxHeartbeats 4000000
theorem indexY_ok {H : Hp} {l : List Ky} {v : Value} {g : FuncId} {caps : List Value} {f : Ky → Bool} (hr : roM H) (hn : l.length ≤ 2199023255551) (hl : LiR Ky.cells 25 H l v)
    (hf : ∀ x ∈ l, CallsV Tryz.prog g (x.v :: caps) H (Ret0 (.bool (f x)))) :
    CallsV Tryz.prog 128 [v, .func (.func g) #[] caps.toArray] H (Ret0 (.int .i64 (idxF f l))) := by
  have hm := hr.marks
  obtain ⟨p, k, rfl, hla⟩ := LiR.openY hl
  refine callsO (noG_ok _) Tryz.mix Tryz.pl128 Tryz.func128 rfl Tryz.ntmps128 Tryz.results128 rfl (by first | rfl | assumption) (Nat.le_of_ble_eq_true rfl) (by kernel_rfl) ?_
  simp only [push_cast, seval, reduceCtorEq]
  refine loopO (noG_ok _) (pl := Tryz.pl128) Tryz.mix (X := Nat)
    (fun i => ([(0, .slice p l.length k), (1, .func (.func g) #[] caps.toArray), (7, .int .i64 l.length), (8, .int .i64 i)], H))
    (fun i => i ≤ l.length ∧ ∀ j y, j < i → l[j]? = some y → f y = false) (fun i => l.length - i) 0 ?_ ?_ (by kernel_rfl) ?_
  · exact ⟨Nat.zero_le _, fun i x h => by omega⟩
  · simp only [push_cast, seval, reduceCtorEq, hm]
  · rintro i ⟨hi, ho⟩
    dsimp only at hi ho ⊢
    rcases Nat.lt_or_ge i l.length with hlt | hge
    · obtain ⟨x, hx⟩ : ∃ x, l[i]? = some x := ⟨l[i], List.getElem?_eq_getElem hlt⟩
      rcases hla with rfl | ⟨b, f', d, kd, cs, rfl, hfe, hat⟩
      · simp at hlt
      obtain ⟨a1, a2⟩ := hat i x hx
      have hfx := hf x (List.mem_of_getElem? hx)
      have i1 : (i : Int) < (l.length : Int) := by omega
      simp only [push_cast, seval, reduceCtorEq, i1, hlt, hfe, a1, a2]
      refine hfx.pure hr.der ?_
      simp only [push_cast, seval, reduceCtorEq, wrap_i64' (show -9223372036854775808 ≤ (i : Int) + 1 ∧ (i : Int) + 1 ≤ 9223372036854775807 by omega)]
      simp only [sel_ite, decide_eq_true_eq, bne_iff_ne, ne_eq, beq_iff_eq]
      split
      · rename_i h
        rw [idxF_some hx h ho]
      · rename_i h
        refine ⟨i + 1, ⟨hlt, fun j y hj hy => ?_⟩, by omega, rfl⟩
        rcases Nat.lt_or_ge j i with h5 | h5
        · exact ho j y h5 hy
        · obtain rfl : j = i := by omega
          rw [hx] at hy; cases hy
          simpa using h
    · obtain rfl : i = l.length := by omega
      simp only [push_cast, seval, reduceCtorEq, Nat.lt_irrefl, Int.lt_irrefl, idxF_none (fun j y hj => ho j y (List.getElem?_eq_some_iff.1 hj).1 hj)]
theorem containsFY_ok {H : Hp} {l : List Ky} {v : Value} {g : FuncId} {caps : List Value} {f : Ky → Bool} (hr : roM H) (hn : l.length ≤ 2199023255551) (hl : LiR Ky.cells 25 H l v)
    (hf : ∀ x ∈ l, CallsV Tryz.prog g (x.v :: caps) H (Ret0 (.bool (f x)))) :
    CallsV Tryz.prog 103 [v, .func (.func g) #[] caps.toArray] H (Ret0 (.bool (l.any f))) := by
  have hm := hr.marks
  obtain ⟨p, k, rfl⟩ := hl.slice
  have hi := indexY_ok hr hn hl hf
  refine callsO (noG_ok _) Tryz.mix Tryz.pl103 Tryz.func103 rfl Tryz.ntmps103 Tryz.results103 rfl (by first | rfl | assumption) (Nat.le_of_ble_eq_true rfl) (by kernel_rfl) ?_
  simp only [push_cast, seval, reduceCtorEq]
  refine hi.pure hr.der ?_
  have e := idxF_any (f := f) (l := l)
  rw [← e]
  simp only [push_cast, seval, reduceCtorEq]
theorem oddG_ok (k : Ky) : CallsV Tryz.prog 104 [k.v] [] (Ret0 (.bool (!k.may))) := by
  unfold Ky.may
  refine callsO gU0_ok Tryz.mix (fun i => if i = 1 then [(0, 9)] else Tryz.pl104 i) Tryz.func104 rfl Tryz.ntmps104 Tryz.results104 rfl (by first | rfl | assumption) (Nat.le_of_ble_eq_true rfl) (by kernel_rfl) ?_
  simp only [push_cast, seval, reduceCtorEq]
  intro b1
  refine regO gU0_ok ?_
  cases hs : k.slot
  · simp only [push_cast, seval, reduceCtorEq, hs, Bool.false_or]
  · simp only [push_cast, seval, reduceCtorEq, hs, Bool.true_or]
end Go.Proofs.YtincedmdkdjakaaGreat
set_option linter.unusedSimpArgs false
set_option linter.unusedVariables false
namespace Go.Ev
theorem kyAll (l : List Ky) : (l.flatMap Ky.cells).all oneC = true := by
  rw [List.all_flatMap]
  exact List.all_eq_true.2 fun x _ => x.all1
theorem ceAll (l : List Ce) : (l.flatMap Ce.cells).all oneC = true := by
  rw [List.all_flatMap]
  exact List.all_eq_true.2 fun x _ => x.all1
end Go.Ev
namespace Go.Proofs.YtincedmdkdjakaaGreat
open Go Go.Ev Go.Proofs
set_option maxRecDepth 100000
set_option maxHeartbeats 4000000
theorem cloneY_ok {M : Hp} {l : List Ky} {v : Value} (hv : LiR Ky.cells 25 M l v) (hm : marksOf M = []) (hn : l.length ≤ 1000000000) : CallsV Tryz.prog 87 [v] M (OutG 45 25 (l.flatMap Ky.cells) l.length) := by
  have ha : (l.flatMap Ky.cells).all oneC = true := kyAll l
  have hlen := flatMap_len (c := Ky.cells) (s := 25) (fun y => y.len) l
  have hsrc := fun b e => (hv.app (N := [⟨b, 0, .vec 45 25 0, []⟩]) e).src (P := Tryz.prog) (xt := 28) (q := 25) (ag := true) (by simp only [push_cast, seval, reduceCtorEq])
  have hv' := hv
  obtain ⟨p, k, rfl, h0⟩ := hv'
  have e0 : p = none → l = [] := fun hp => by
    rcases h0 with h | ⟨b, o, h, -⟩
    · exact h
    · rw [hp] at h; cases h
  refine callsO gU0_ok Tryz.mix Tryz.pl87 Tryz.func87 rfl Tryz.ntmps87 Tryz.results87 rfl (by first | rfl | assumption) (Nat.le_of_ble_eq_true rfl) (by kernel_rfl) ?_
  cases p with
  | none =>
    obtain rfl := e0 rfl
    simp only [push_cast, seval, reduceCtorEq]
    exact ⟨[], List.nil_sublist _, .inl ⟨rfl, rfl, rfl, rfl⟩⟩
  | some a =>
    simp only [push_cast, seval, reduceCtorEq]
    intro b hb
    have hsrc' := hsrc b ⟨hb, trivial⟩
    simp only [List.cons_append, List.nil_append] at hsrc'
    simp only [push_cast, seval, reduceCtorEq, hsrc', ha]
    refine ⟨by unfold two47; omega, fun b2 c2 hb2 hc2 => ?_⟩
    exact ⟨[_], (List.nil_sublist _).cons_cons _, .inr ⟨b2, c2, rfl, hc2, hlen, rfl⟩⟩
theorem cloneE_ok {M : Hp} {l : List Ce} {v : Value} (hv : LiR Ce.cells 35 M l v) (hm : marksOf M = []) (hn : l.length ≤ 1000000000) : CallsV Tryz.prog 88 [v] M (OutG 74 35 (l.flatMap Ce.cells) l.length) := by
  have ha : (l.flatMap Ce.cells).all oneC = true := ceAll l
  have hlen := flatMap_len (c := Ce.cells) (s := 35) (fun y => y.len) l
  have hsrc := fun b e => (hv.app (N := [⟨b, 0, .vec 74 35 0, []⟩]) e).src (P := Tryz.prog) (xt := 31) (q := 35) (ag := true) (by simp only [push_cast, seval, reduceCtorEq])
  have hv' := hv
  obtain ⟨p, k, rfl, h0⟩ := hv'
  have e0 : p = none → l = [] := fun hp => by
    rcases h0 with h | ⟨b, o, h, -⟩
    · exact h
    · rw [hp] at h; cases h
  refine callsO gU0_ok Tryz.mix Tryz.pl88 Tryz.func88 rfl Tryz.ntmps88 Tryz.results88 rfl (by first | rfl | assumption) (Nat.le_of_ble_eq_true rfl) (by kernel_rfl) ?_
  cases p with
  | none =>
    obtain rfl := e0 rfl
    simp only [push_cast, seval, reduceCtorEq]
    exact ⟨[], List.nil_sublist _, .inl ⟨rfl, rfl, rfl, rfl⟩⟩
  | some a =>
    simp only [push_cast, seval, reduceCtorEq]
    intro b hb
    have hsrc' := hsrc b ⟨hb, trivial⟩
    simp only [List.cons_append, List.nil_append] at hsrc'
    simp only [push_cast, seval, reduceCtorEq, hsrc', ha]
    refine ⟨by unfold two47; omega, fun b2 c2 hb2 hc2 => ?_⟩
    exact ⟨[_], (List.nil_sublist _).cons_cons _, .inr ⟨b2, c2, rfl, hc2, hlen, rfl⟩⟩
theorem cloneY_R {M : Hp} {l : List Ky} {v : Value} (hv : LiR Ky.cells 25 M l v) (hn : l.length ≤ 1000000000) : CallsR Tryz.prog 87 [v] M (KsR l) := fun M0 hr he =>
  (cloneY_ok (hv.congr he.symm) hr.marks hn).toK fun u N h => ⟨h.wr.1, h.wr.2, fun _ => h.liR rfl rfl M0⟩
end Go.Proofs.YtincedmdkdjakaaGreat
set_option linter.unusedSimpArgs false
set_option linter.unusedVariables false
namespace Go.Ev
noncomputable def cmpI : Int → Int → Int := hid fun x y => if x < y then -1 else if y < x then 1 else 0
theorem cmpI_eq (x y : Int) : cmpI x y = if x < y then -1 else if y < x then 1 else 0 := by unfold cmpI; rw [hid_eq]
noncomputable def cmpIG : List Value → Option Value
  | [.int .i64 x, .int .i64 y] => some (.int .i64 (cmpI x y))
  | _ => none
def kindI (b : Bool) : Int := if b then 1 else 0
noncomputable def kindYG : List Value → Option Value
  | [x] => (kyOf x).bind fun a => some (.int .i64 (kindI a.slot))
  | _ => none
noncomputable def oddYG : List Value → Option Value
  | [x] => (kyOf x).bind fun a => some (.bool (!a.may))
  | _ => none
attribute [push_cast] cmpIG kindYG oddYG
def or3 (x y z : Int) : Int := if x = 0 then if y = 0 then z else y else x
theorem or3_ord (x y : Ky) : or3 (cmpL x.at_.l y.at_.l) (cmpI (kindI x.slot) (kindI y.slot)) (x.key.cmp y.key) = ordY x y := by
  rw [cmpL_ad, cmpI_eq]
  unfold or3
  by_cases h1 : x.at_.num < y.at_.num
  · rw [if_pos h1, ordY_lt (.inl h1)]; rfl
  · rw [if_neg h1]
    by_cases h2 : y.at_.num < x.at_.num
    · rw [if_pos h2, ordY_gt (.inl h2)]; rfl
    · rw [if_neg h2, if_pos rfl]
      have ha : x.at_ = y.at_ := Ad.num_inj (by omega)
      cases hx : x.slot <;> cases hy : y.slot
      · rw [ordY_key ha (by rw [hx, hy])]; rfl
      · rw [ordY_lt (Ky.lt_slot ha hx hy)]; rfl
      · rw [ordY_gt (Ky.lt_slot ha.symm hy hx)]; rfl
      · rw [ordY_key ha (by rw [hx, hy])]; rfl
theorem takeR {P : Program} {g : FuncId} {args : List Value} (L : Hp) {M : Hp} {v : Value} {K : Value → Prop} (hc : ∀ M0, roM M0 → cellsAt M0 = cellsAt M → CallsV P g args M0 (Ret0 v)) (hL : freshN L M) (hk : K v) : TakeV P g args (L ++ M) K := TakeV.mk (derE_behind hL) (hc (roAll M) (roAll_ro M) (cellsAt_roAll M)) hk
end Go.Ev
namespace Go.Proofs.YtincedmdkdjakaaGreat
open Go Go.Ev Go.Proofs
set_option maxRecDepth 100000
set_option maxHeartbeats 4000000
theorem cmpIG_ok (args : List Value) (v : Value) (h : cmpIG args = some v) : CallsV Tryz.prog 125 args [] (Ret0 v) := by
  unfold cmpIG at h
  split at h
  case h_2 => cases h
  rename_i x y
  cases h
  rw [cmpI_eq]
  refine callsO gU0_ok Tryz.mix Tryz.pl125 Tryz.func125 rfl Tryz.ntmps125 Tryz.results125 rfl (by first | rfl | assumption) (Nat.le_of_ble_eq_true rfl) (by kernel_rfl) ?_
  rcases Int.lt_trichotomy x y with h | h | h
  · simp only [push_cast, seval, reduceCtorEq, h]
  · have h1 : ¬ x < y := by omega
    have h2 : ¬ y < x := by omega
    simp only [push_cast, seval, reduceCtorEq, h1, h2]
  · have h1 : ¬ x < y := by omega
    simp only [push_cast, seval, reduceCtorEq, h1, h]
theorem kindYG_ok (args : List Value) (v : Value) (h : kindYG args = some v) : CallsV Tryz.prog 123 args [] (Ret0 v) := by
  unfold kindYG at h
  split at h
  case h_2 => cases h
  rename_i x
  cases hx : kyOf x with
  | none => simp [hx] at h
  | some a =>
    simp only [hx, Option.bind_some, Option.some.injEq] at h
    rw [kyOf_some hx, ← h]
    unfold kindI
    refine callsO gU0_ok Tryz.mix Tryz.pl123 Tryz.func123 rfl Tryz.ntmps123 Tryz.results123 rfl (by first | rfl | assumption) (Nat.le_of_ble_eq_true rfl) (by kernel_rfl) ?_
    simp only [push_cast, seval, reduceCtorEq]
    cases a.slot <;> rfl
theorem oddYG_ok (args : List Value) (v : Value) (h : oddYG args = some v) : CallsV Tryz.prog 104 args [] (Ret0 v) := by
  unfold oddYG at h
  split at h
  case h_2 => cases h
  rename_i x
  cases hx : kyOf x with
  | none => simp [hx] at h
  | some a => simp only [hx, Option.bind_some, Option.some.injEq] at h; rw [kyOf_some hx, ← h]; exact oddG_ok a
noncomputable def gU1 : Gam := (addG 104 oddYG (addG 123 kindYG (addG 125 cmpIG gU0)))
attribute [push_cast] gU1
theorem gU1_ok : GamOk Tryz.prog gU1 := (addG_ok oddYG_ok (addG_ok kindYG_ok (addG_ok cmpIG_ok gU0_ok)))
theorem or3_ok {b : Nat} (x y z : Int) : CallsV Tryz.prog 124 [.slice (some ⟨b, 0, none⟩) 3 3] [⟨b, 0, .ro, [.int .i64 x, .int .i64 y, .int .i64 z]⟩] (Ret0 (.int .i64 (or3 x y z))) := by
  unfold or3
  refine callsO gU1_ok Tryz.mix Tryz.pl124 Tryz.func124 rfl Tryz.ntmps124 Tryz.results124 rfl (by first | rfl | assumption) (Nat.le_of_ble_eq_true rfl) (by kernel_rfl) ?_
  simp only [push_cast, seval, reduceCtorEq]
  refine unrollO gU1_ok (pl := Tryz.pl124) Tryz.mix 4 (by kernel_rfl) ?_
  by_cases hx : x = 0
  case neg =>
    have e1 : (x != 0) = true := bne_iff_ne.2 hx
    simp only [push_cast, seval, reduceCtorEq, hx, e1]
  have e1 : (x != 0) = false := by rw [hx]; rfl
  by_cases hy : y = 0
  case neg =>
    have e2 : (y != 0) = true := bne_iff_ne.2 hy
    simp only [push_cast, seval, reduceCtorEq, hx, hy, e1, e2]
  have e2 : (y != 0) = false := by rw [hy]; rfl
  by_cases hz : z = 0
  case neg =>
    have e3 : (z != 0) = true := bne_iff_ne.2 hz
    simp only [push_cast, seval, reduceCtorEq, hx, hy, e1, e2, e3]
  have e3 : (z != 0) = false := by rw [hz]; rfl
  simp only [push_cast, seval, reduceCtorEq, hx, hy, hz, e1, e2, e3]
theorem aorder_ok (x y : Ky) : CallsV Tryz.prog 101 [x.v, y.v] [] (Ret0 (.int .i64 (ordY x y))) := by
  rw [← or3_ord]
  refine callsO gU1_ok Tryz.mix Tryz.pl101 Tryz.func101 rfl Tryz.ntmps101 Tryz.results101 rfl (by first | rfl | assumption) (Nat.le_of_ble_eq_true rfl) (by kernel_rfl) ?_
  simp only [push_cast, seval, reduceCtorEq]
  intro b2 b3 hb3
  have q : ∀ (b : Nat) (z : Ky) (k : Kind) (X : Hp), cellsAt (⟨b, 0, k, z.cells⟩ :: X) b 0 20 = some z.at_.cells := fun b z k X => by
    unfold cellsAt
    simp only [findE, if_true, Nat.zero_le, Nat.sub_zero, subL, List.drop_zero, Nat.zero_add]
    rw [if_pos (by rw [z.len]; omega), z.take20]
  have q2 : ∀ (k k' : Kind), cellsAt [⟨b3, 0, k, y.cells⟩, ⟨b2, 0, k', x.cells⟩] b2 0 20 = some x.at_.cells := fun k k' => by
    have := q b2 x k' []
    unfold cellsAt at this ⊢
    simp only [findE, if_neg hb3.2, if_true] at this ⊢
    exact this
  refine takeR [] (M := [⟨b3, 0, .cel 45, y.cells⟩, ⟨b2, 0, .cel 45, x.cells⟩]) (fun M0 hr he => bytesCompare_ok (l := x.at_.l) (m := y.at_.l) (by rw [he]; exact q2 _ _) (by rw [he]; exact q b3 y _ _) hr.marks) trivial ?_
  simp only [push_cast, seval, reduceCtorEq, hb3]
  intro b hb
  simp only [push_cast, seval, reduceCtorEq, hb, hb3]
  refine TakeV.mk (Hf := [⟨b, 0, .ro, [.int .i64 (cmpL x.at_.l y.at_.l), .int .i64 (cmpI (kindI x.slot) (kindI y.slot)), .int .i64 (x.key.cmp y.key)]⟩]) ⟨⟨rfl, ?_⟩, trivial⟩ (or3_ok _ _ _) ?_
  · simp only [push_cast, seval, reduceCtorEq, cellsAt]
  simp only [push_cast, seval, reduceCtorEq, hb, hb3]
theorem aordYG_ok (args : List Value) (v : Value) (h : ordYG args = some v) : CallsV Tryz.prog 101 args [] (Ret0 v) := by
  obtain ⟨x, y, rfl, rfl⟩ := kybin_some (g := fun a b => .int .i64 (ordY a b)) (by funext l; rfl) h
  exact aorder_ok x y
noncomputable def gU2 : Gam := (addG 101 ordYG gU1)
attribute [push_cast] gU2
theorem gU2_ok : GamOk Tryz.prog gU2 := (addG_ok aordYG_ok gU1_ok)
end Go.Proofs.YtincedmdkdjakaaGreat
