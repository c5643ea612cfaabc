/- Texts of this claim, merged by program: Te Tf Tg. -/
import Derived.Test.YtpcjmmdgopihcaaGreatDoorZeAf
set_option linter.unusedSimpArgs false
set_option linter.unusedVariables false
namespace Go.Ev
theorem cellsAt_find {H : Hp} {b o n : Nat} {cs : List Value} (h : cellsAt H b o n = some cs) : ∃ e, findE H b = some e := by
  unfold cellsAt at h
  cases hf : findE H b with
  | none => rw [hf] at h; cases h
  | some e => exact ⟨e, rfl⟩
theorem SlR.cons {H : Hp} {l : List Sl} {v : Value} {e : Ent} (h : SlR H l v) (hf : fresh e.blk H) : SlR (e :: H) l v := by
  obtain ⟨p, c, rfl, h | ⟨b, o, rfl, h⟩⟩ := h
  · exact ⟨p, c, rfl, .inl h⟩
  · refine ⟨_, c, rfl, .inr ⟨b, o, rfl, ?_⟩⟩
    obtain ⟨e', he⟩ := cellsAt_find h
    have := (fresh_find hf he).2
    unfold cellsAt at h ⊢
    simp only [findE, if_neg this]
    exact h
theorem SlR.app {H : Hp} {l : List Sl} {v : Value} (h : SlR H l v) : ∀ {N : Hp}, freshN N H → (N.Pairwise fun e f => e.blk ≠ f.blk) → SlR (N ++ H) l v
  | [], _, _ => h
  | e :: r, hf, hp => by
    obtain ⟨h1, h2⟩ := List.pairwise_cons.1 hp
    have := h.app hf.2 h2
    obtain ⟨p, c, rfl, h | ⟨b, o, rfl, h⟩⟩ := h
    · exact ⟨p, c, rfl, .inl h⟩
    · obtain ⟨p', c', hv, h' | ⟨b', o', hv', h'⟩⟩ := this
      · exact ⟨_, c, rfl, .inl h'⟩
      · cases hv; cases hv'
        refine ⟨_, c, rfl, .inr ⟨b, o, rfl, ?_⟩⟩
        obtain ⟨e', he⟩ := cellsAt_find h
        have := (fresh_find hf.1 he).2
        unfold cellsAt at h' ⊢
        simp only [findE, List.cons_append, if_neg this]
        exact h'
theorem SlR.two {H : Hp} {l m : List Sl} {v u : Value} (h1 : SlR H l v) (h2 : SlR H m u) : ∃ Hf, derE H Hf ∧ derE Hf Hf ∧ marksOf Hf = [] ∧ SlR Hf l v ∧ SlR Hf m u := by
  have self : ∀ {b : Nat} {e : Ent} {R : Hp}, findE R b = some e → cellsAt R e.blk e.off e.cells.length = some e.cells := fun {b e R} hf => by
    have hb := (findE_mem hf).2
    unfold cellsAt
    rw [hb, hf]
    simp [subL]
  have ro : ∀ {b o n : Nat} {cs : List Value} {e : Ent} {R : Hp}, findE H b = some e → cellsAt H b o n = some cs → findE R b = some { e with kind := .ro } → cellsAt R b o n = some cs := fun {b o n cs e R} hf hc hr => by
    unfold cellsAt at hc ⊢
    rw [hf] at hc; rw [hr]; exact hc
  obtain ⟨p, c, rfl, h1⟩ := h1
  obtain ⟨p', c', rfl, h2⟩ := h2
  rcases h1 with rfl | ⟨b, o, rfl, h1⟩
  · rcases h2 with rfl | ⟨b', o', rfl, h2⟩
    · exact ⟨[], trivial, trivial, rfl, ⟨p, c, rfl, .inl rfl⟩, ⟨p', c', rfl, .inl rfl⟩⟩
    · obtain ⟨e', he'⟩ := cellsAt_find h2
      have hb' := (findE_mem he').2
      have hs : findE [{ e' with kind := .ro }] b' = some { e' with kind := .ro } := by simp [findE, hb']
      exact ⟨[{ e' with kind := .ro }], ⟨⟨rfl, self (e := e') he'⟩, trivial⟩, ⟨⟨rfl, self (e := { e' with kind := .ro }) hs⟩, trivial⟩, rfl, ⟨p, c, rfl, .inl rfl⟩, ⟨_, c', rfl, .inr ⟨b', o', rfl, ro he' h2 hs⟩⟩⟩
  · obtain ⟨e, he⟩ := cellsAt_find h1
    have hb := (findE_mem he).2
    rcases h2 with rfl | ⟨b', o', rfl, h2⟩
    · have hs : findE [{ e with kind := .ro }] b = some { e with kind := .ro } := by simp [findE, hb]
      exact ⟨[{ e with kind := .ro }], ⟨⟨rfl, self (e := e) he⟩, trivial⟩, ⟨⟨rfl, self (e := { e with kind := .ro }) hs⟩, trivial⟩, rfl, ⟨_, c, rfl, .inr ⟨b, o, rfl, ro he h1 hs⟩⟩, ⟨p', c', rfl, .inl rfl⟩⟩
    · obtain ⟨e', he'⟩ := cellsAt_find h2
      have hb' := (findE_mem he').2
      by_cases hbb : b' = b
      · subst hbb
        have hs : findE [{ e with kind := .ro }] b' = some { e with kind := .ro } := by simp [findE, hb]
        exact ⟨[{ e with kind := .ro }], ⟨⟨rfl, self (e := e) he⟩, trivial⟩, ⟨⟨rfl, self (e := { e with kind := .ro }) hs⟩, trivial⟩, rfl, ⟨_, c, rfl, .inr ⟨b', o, rfl, ro he h1 hs⟩⟩, ⟨_, c', rfl, .inr ⟨b', o', rfl, ro he h2 hs⟩⟩⟩
      · have hs : findE [{ e with kind := .ro }, { e' with kind := .ro }] b = some { e with kind := .ro } := by simp [findE, hb]
        have hs' : findE [{ e with kind := .ro }, { e' with kind := .ro }] b' = some { e' with kind := .ro } := by simp [findE, hb, hb', hbb]
        exact ⟨[{ e with kind := .ro }, { e' with kind := .ro }], ⟨⟨rfl, self (e := e) he⟩, ⟨rfl, self (e := e') he'⟩, trivial⟩, ⟨⟨rfl, self (e := { e with kind := .ro }) hs⟩, ⟨rfl, self (e := { e' with kind := .ro }) hs'⟩, trivial⟩, rfl, ⟨_, c, rfl, .inr ⟨b, o, rfl, ro he h1 hs⟩⟩, ⟨_, c', rfl, .inr ⟨b', o', rfl, ro he' h2 hs'⟩⟩⟩
theorem OutS.pair {e : Nat} {l : List Sl} {v : Value} {N : Hp} (h : OutS e l v N) : N.Pairwise fun e f => e.blk ≠ f.blk := by
  obtain ⟨rfl, rfl, rfl⟩ | ⟨b, c, h0, rfl, hc, rfl⟩ := h
  · exact List.Pairwise.nil
  · simp
theorem findE_skip {b : Nat} {L : Hp} : ∀ {A : Hp}, (∀ x ∈ A, ¬ x.blk = b) → findE (A ++ L) b = findE L b
  | [], _ => rfl
  | x :: r, h => by
    have := h x (by simp)
    simp only [findE, List.cons_append, if_neg (Ne.symm this)]
    exact findE_skip fun y hy => h y (by simp [hy])
theorem OutS.suf {e : Nat} {l : List Sl} {v : Value} {N A B : Hp} (h : OutS e l v N) (hA : ∀ x ∈ A, ∀ y ∈ N, ¬ x.blk = y.blk) : ∃ b, SufS (A ++ (N ++ B)) l b 0 v := by
  obtain ⟨rfl, rfl, rfl⟩ | ⟨b, c, h0, rfl, hc, rfl⟩ := h
  · exact ⟨0, .inl ⟨rfl, none, 0, rfl⟩⟩
  · refine ⟨b, .inr ⟨?_, c, hc, ?_, .vec e 8 c, ?_⟩⟩
    · rcases l with _ | ⟨x, r⟩
      · exact absurd rfl h0
      · simp
    · simp
    · rw [findE_skip (b := b) fun x hx => hA x hx ⟨b, 0, .vec e 8 c, slC l⟩ (by simp)]
      simp [findE]
theorem joinS_len : ∀ (a b : List Sl), (joinS a b).length ≤ a.length + b.length
  | [], [] => by simp [joinS]
  | x :: r, [] => by have := joinS_len r []; simp only [joinS, List.length_cons, List.length_nil] at *; omega
  | [], y :: s => by have := joinS_len [] s; simp only [joinS, List.length_cons, List.length_nil] at *; omega
  | x :: r, y :: s => by
    rw [joinS]
    split
    · have := joinS_len r (y :: s); simp only [List.length_cons] at *; omega
    · split
      · have := joinS_len (x :: r) s; simp only [List.length_cons] at *; omega
      · have := joinS_len r s; simp only [List.length_cons] at *; omega
termination_by a b => a.length + b.length
theorem freshN_ne {H : Hp} : ∀ {N : Hp}, freshN N H → ∀ e ∈ N, ∀ x ∈ H, ¬ x.blk = e.blk
  | [], _, e, he => by cases he
  | y :: r, h, e, he => by
    rcases List.mem_cons.1 he with rfl | he
    · exact findE_fresh h.1
    · exact freshN_ne h.2 e he
def OutE (e : Nat) (r : List Sl × Int) : Value → Hp → Prop := fun v N => ∃ w, v = .tuple #[w, .int .i64 r.2] ∧ OutS e r.1 w N
def pickM (x : Bo) : Option Sl := if (if x.inB then x.b else x.a) = W.zero then none else some ⟨x.key, if x.inB then x.b else x.a⟩
def pickD (x : Bo) : Option Sl := if x.a = x.b then none else some ⟨x.key, x.b⟩
def mergeL (l m : List Sl) : List Sl := (joinS l m).filterMap pickM
def diffL (l m : List Sl) : List Sl := (joinS l m).filterMap pickD
def limR (l : List Sl) : List Sl × Int := if 1000 < l.length then ([], 2) else (l, 0)
noncomputable def mergeR (l m : List Sl) : List Sl × Int := if rightB l && patchB m then limR (mergeL l m) else ([], 1)
theorem rightB_len {l : List Sl} (h : rightB l = true) : l.length ≤ 1000 := by unfold rightB patchB at h; simp at h; exact h.1.1
theorem patchB_len {l : List Sl} (h : patchB l = true) : l.length ≤ 1000 := by unfold patchB at h; simp at h; exact h.1
theorem Bo.len (x : Bo) : x.cells.length = 13 := rfl
theorem Bo.take13 (x : Bo) : List.take 13 x.cells = x.cells := rfl
theorem Bo.drop13 (x : Bo) : List.drop 13 x.cells = [] := rfl
theorem Bo.all1 (x : Bo) : x.cells.all oneC = true := rfl
theorem Bo.key0 (x : Bo) : List.take 4 x.cells = x.key.cells := rfl
theorem Bo.a4 (x : Bo) : List.take 4 (List.drop 4 x.cells) = x.a.cells := rfl
theorem Bo.b8 (x : Bo) : List.take 4 (List.drop 8 x.cells) = x.b.cells := rfl
theorem Bo.i12 (x : Bo) : List.take 1 (List.drop 12 x.cells) = [.bool x.inB] := rfl
theorem Bo.agg (x : Bo) : Value.agg x.cells.toArray = x.v := rfl
theorem Bo.v_cells (x : Bo) : x.v.cells = x.cells.toArray := rfl
attribute [push_cast] Bo.len Bo.take13 Bo.drop13 Bo.all1 Bo.key0 Bo.a4 Bo.b8 Bo.i12 Bo.agg Bo.v_cells
end Go.Ev
namespace Go.Proofs.YtpcjmmdgopihcaaGreatDoor
open Go Go.Ev Go.Proofs
set_option maxRecDepth 100000
set_option maxHeartbeats 4000000
theorem with_ok (s t : Value × Value) : CallsV Tryz.prog 119 [.agg #[s.1, s.2], .agg #[t.1, t.2]] []
    (fun v N => ∃ b2 b3, ¬ b2 = b3 ∧ v = .func (.func 142) #[] #[.pointer (some ⟨b2, 0, none⟩), .pointer (some ⟨b3, 0, none⟩)] ∧ N = [⟨b3, 0, .cel 140, [t.1, t.2]⟩, ⟨b2, 0, .cel 140, [s.1, s.2]⟩]) := by
  refine callsO gB_ok Tryz.mix Tryz.pl119 Tryz.func119 rfl Tryz.ntmps119 Tryz.results119 rfl (by first | rfl | assumption) (Nat.le_of_ble_eq_true rfl) (by kernel_rfl) ?_
  simp only [push_cast, seval, reduceCtorEq]
  intro b2 b3 hb3
  exact ⟨_, List.Sublist.refl _, b2, b3, hb3.2, rfl, rfl⟩
theorem merge_ok {Hf : Hp} {l m : List Sl} {v u : Value} (hd : derE Hf Hf) (hm : marksOf Hf = []) (hl : SlR Hf l v) (hu : SlR Hf m u) : CallsV Tryz.prog 98 [v, u] Hf (OutE 67 (mergeR l m)) := by
  refine callsO gB_ok Tryz.mix Tryz.pl98 Tryz.func98 rfl Tryz.ntmps98 Tryz.results98 rfl (by first | rfl | assumption) (Nat.le_of_ble_eq_true rfl) (by kernel_rfl) ?_
  simp only [push_cast, seval, reduceCtorEq]
  obtain ⟨Hl, hl1, hl2⟩ := hl.h
  obtain ⟨Hu, hu1, hu2⟩ := hu.h
  refine (right_ok hl1).pure hl2 ?_
  simp only [push_cast, seval, reduceCtorEq]
  cases hr : rightB l with
  | false =>
    simp only [push_cast, seval, reduceCtorEq]
    exact ⟨[], List.nil_sublist _, _, by simp [mergeR, hr], .inl ⟨by simp [mergeR, hr], rfl, rfl⟩⟩
  | true =>
  simp only [push_cast, seval, reduceCtorEq]
  refine (patch_ok hu1).pure hu2 ?_
  simp only [push_cast, seval, reduceCtorEq]
  cases hp : patchB m with
  | false =>
    simp only [push_cast, seval, reduceCtorEq]
    exact ⟨[], List.nil_sublist _, _, by simp [mergeR, hr, hp], .inl ⟨by simp [mergeR, hr, hp], rfl, rfl⟩⟩
  | true =>
  simp only [push_cast, seval, reduceCtorEq]
  have ln1 := rightB_len hr
  have ln2 := patchB_len hp
  intro b6 hb6
  obtain ⟨Hl3, hl3, hl4⟩ := (hl.cons (e := ⟨b6, 0, .cel 29, [.slice none 0 0]⟩) hb6).h
  refine (of_ok hl3 (by omega)).use hl4 ?_
  rintro _ N1 ⟨w1, rfl, ho1⟩
  refine ⟨ho1.wr.1, ho1.wr.2, fun hf1 => ?_⟩
  try simp only [push_cast, seval, reduceCtorEq]
  obtain ⟨Hu3, hu3, hu4⟩ := ((hu.cons (e := ⟨b6, 0, .cel 29, [.slice none 0 0]⟩) hb6).app hf1 ho1.pair).h
  refine (of_ok hu3 (by omega)).use hu4 ?_
  rintro _ N2 ⟨w2, rfl, ho2⟩
  refine ⟨ho2.wr.1, ho2.wr.2, fun hf2 => ?_⟩
  try simp only [push_cast, seval, reduceCtorEq]
  refine (with_ok (w1, _) (w2, _)).use trivial ?_
  rintro _ _ ⟨b2, b3, hb23, rfl, rfl⟩
  refine ⟨⟨trivial, trivial, trivial⟩, rfl, fun hf3 => ?_⟩
  try simp only [push_cast, seval, reduceCtorEq]
  have hf23 := freshN_ne hf3
  have hf21 := freshN_ne hf2
  obtain ⟨bb, hsb⟩ := ho2.suf (A := [⟨b3, 0, .cel 140, [w2, .func (.func 141) #[] #[]]⟩, ⟨b2, 0, .cel 140, [w1, .func (.func 141) #[] #[]]⟩]) (B := N1)
    (fun x hx y hy h => hf23 x hx y (by simp [hy]) h.symm)
  obtain ⟨ba, hsa⟩ := ho1.suf (A := ⟨b3, 0, .cel 140, [w2, .func (.func 141) #[] #[]]⟩ :: ⟨b2, 0, .cel 140, [w1, .func (.func 141) #[] #[]]⟩ :: N2) (B := []) (fun x hx y hy h => by
    rcases List.mem_append.1 (show x ∈ [_, _] ++ N2 from hx) with hx | hx
    · exact hf23 x hx y (by simp [hy]) h.symm
    · exact hf21 x hx y (by simp [hy]) h.symm)
  rw [List.append_nil] at hsa
  refine rangeO gB_ok (pl := Tryz.pl98) Tryz.mix (Hc := ⟨b3, 0, .cel 140, [w2, .func (.func 141) #[] #[]]⟩ :: ⟨b2, 0, .cel 140, [w1, .func (.func 141) #[] #[]]⟩ :: (N2 ++ N1)) (Hm := [])
    (with1_ok (a := l) (b := m) (b2 := b2) (b3 := b3) (by omega) (by simp [marksOf, marks_append, ho1.wr.2, ho2.wr.2]) (by simp [findE, hb23]) (by simp [findE]) hsa hsb) rfl
    (X := {x : List Sl × Value × Hp // allWr x.2.2 ∧ marksOf x.2.2 = []}) (fun x => ⟨b6, 0, .cel 29, [x.1.2.1]⟩ :: x.1.2.2)
    (fun k x => x.1.1 = ((joinS l m).take k).filterMap pickM ∧ OutS 67 x.1.1 x.1.2.1 x.1.2.2 ∧ freshN x.1.2.2 [⟨b6, 0, .ro, []⟩]) (fun _ _ => False) ⟨([], .slice none 0 0, []), trivial, rfl⟩
    ⟨rfl, .inl ⟨rfl, rfl, rfl⟩, trivial⟩ ?_ ?_ ?_ (by simp) (fun x => by simp [marksOf, x.2.2]) (fun x y e he => .inl ?_) ?_ (by kernel_rfl) (by kernel_rfl) (fun _ _ h => h.elim) ?_ ?_ (fun _ _ _ _ h => h.elim)
  · have h := subH_app Hf (⟨b3, 0, .cel 140, [w2, .func (.func 141) #[] #[]]⟩ :: ⟨b2, 0, .cel 140, [w1, .func (.func 141) #[] #[]]⟩ :: (N2 ++ (N1 ++ [⟨b6, 0, .cel 29, [.slice none 0 0]⟩])))
    simpa only [List.cons_append, List.append_assoc, List.nil_append, List.append_nil] using h
  · simp [marksOf, marks_append, ho1.wr.2, ho2.wr.2, hm]
  · simp [marksOf, marks_append, ho1.wr.2, ho2.wr.2]
  · rcases List.mem_cons.1 he with rfl | he
    · exact trivial
    · exact allWr_mem y.2.1 e he
  · intro args ha
    obtain ⟨y, _, rfl⟩ := List.mem_map.1 ha
    rfl
  · rintro lo k ⟨⟨L, w, N⟩, hx1, hx2⟩ args hk ⟨hL, hO, hF⟩
    dsimp only at hx1 hx2 hL hO hF ⊢
    rw [List.getElem?_map] at hk
    obtain ⟨y, hy, rfl⟩ := Option.map_eq_some_iff.1 hk
    have hstep : ((joinS l m).take (k + 1)).filterMap pickM = L ++ (pickM y).toList := by
      rw [List.take_add_one, hy, List.filterMap_append, ← hL]
      cases h : pickM y <;> simp [h]
    have hlen : L.length ≤ 2000 := by
      have h1 := joinS_len l m
      have h2 : L.length ≤ (joinS l m).length := by rw [hL]; exact Nat.le_trans (List.length_filterMap_le ..) (by simp; omega)
      omega
    simp only [push_cast, seval, reduceCtorEq]
    intro b7 hb7
    simp only [push_cast, seval, reduceCtorEq, hb7]
    refine ⟨hx2, roSub_of fun e he => .inl (allWr_mem hx1 e he), fun b8 hb8 => ?_⟩
    obtain ⟨z, hz⟩ : ∃ z, z = (if y.inB then y.b else y.a) := ⟨_, rfl⟩
    have hpk : pickM y = if z = W.zero then none else some ⟨y.key, z⟩ := by rw [hz]; rfl
    by_cases hz0 : z = W.zero
    · have hd0 : decide (z = W.zero) = true := by simpa using hz0
      rw [hpk, if_pos hz0] at hstep
      refine (show _ from ?_)
      cases hi : y.inB
      all_goals
        simp only [hi, Bool.false_eq_true, if_false, if_true] at hz
        subst hz
        simp only [push_cast, seval, reduceCtorEq, hb7, hb8, hi, hd0, Nat.zero_le]
        refine ⟨⟨(L, w, N), hx1, hx2⟩, ⟨by rw [hstep]; simp, hO, hF⟩, ?_⟩
        simp only [push_cast, seval, reduceCtorEq, hb7, hb8]
    · have hd0 : decide (z = W.zero) = false := by simpa using hz0
      rw [hpk, if_neg hz0] at hstep
      rcases hO with ⟨h0, rfl, rfl⟩ | ⟨bo, co, h0, rfl, hco, rfl⟩
      · cases hi : y.inB
        all_goals
          simp only [hi, Bool.false_eq_true, if_false, if_true] at hz
          subst hz
          simp only [push_cast, seval, reduceCtorEq, hb7, hb8, hi, hd0, Nat.zero_le]
          intro b9 hb9
          simp only [push_cast, seval, reduceCtorEq, hb7, hb8, hb9, Sl.pair]
          refine ⟨by unfold two47; omega, fun b10 c10 hb10 hc10 => ?_⟩
          simp only [push_cast, seval, reduceCtorEq, hb7, hb8, hb9, hb10, roundK]
          subst h0
          refine ⟨⟨([⟨y.key, _⟩], .slice (some ⟨b10, 0, none⟩) 1 c10, [⟨b10, 0, .vec 67 8 c10, slC [⟨y.key, _⟩]⟩]), ⟨trivial, trivial⟩, rfl⟩, ⟨hstep.symm, .inr ⟨b10, c10, by simp, rfl, hc10, rfl⟩, ?_⟩, ?_⟩
          · simp only [push_cast, seval, reduceCtorEq, hb10]
          · simp only [push_cast, seval, reduceCtorEq, hb10, hb9, hb8, hb7]
      · simp only [push_cast, seval, reduceCtorEq] at hF hb7 hb8
        cases hi : y.inB
        all_goals
          simp only [hi, Bool.false_eq_true, if_false, if_true] at hz
          subst hz
          simp only [push_cast, seval, reduceCtorEq, hb7, hb8, hi, hd0, hF, Nat.zero_le]
          intro b9 hb9
          simp only [push_cast, seval, reduceCtorEq, hb7, hb8, hb9, hF, Sl.pair, slC_len]
          refine ⟨by unfold two47; omega, fun b10 c10 hb10 hc10 => ?_⟩
          simp only [push_cast, seval, reduceCtorEq, hb7, hb8, hb9, hb10, hF, roundK]
          refine ⟨⟨(L ++ [⟨y.key, _⟩], .slice (some ⟨b10, 0, none⟩) (L.length + 1) c10, [⟨b10, 0, .vec 67 8 c10, slC (L ++ [⟨y.key, _⟩])⟩]), ⟨trivial, trivial⟩, rfl⟩, ⟨hstep.symm, .inr ⟨b10, c10, by simp, by simp, by simpa using hc10, rfl⟩, ?_⟩, ?_⟩
          · simp only [push_cast, seval, reduceCtorEq, hb10]
          · simp only [push_cast, seval, reduceCtorEq, slC_app, hb10, hb9, hb8, hb7]
  · rintro D ⟨⟨L, w, N⟩, hx1, hx2⟩ hfD ⟨hL, hO, hF⟩
    dsimp only at hx1 hx2 hL hO hF hfD ⊢
    have hL' : L = mergeL l m := by rw [hL, List.length_map, List.take_length]; rfl
    subst hL'
    rcases hO with ⟨h0, rfl, rfl⟩ | ⟨bo, co, h0, rfl, hco, rfl⟩
    · simp only [push_cast, seval, reduceCtorEq] at hfD
      simp only [push_cast, seval, reduceCtorEq, hfD]
      refine (limited_ok _ _ _).pure trivial ?_
      simp only [push_cast, seval, reduceCtorEq, Nat.not_lt_zero, List.getElem?_toArray]
      exact ⟨[], List.nil_sublist _, _, by simp [mergeR, hr, hp, limR, h0], .inl ⟨by simp [mergeR, hr, hp, limR, h0], rfl, rfl⟩⟩
    · simp only [push_cast, seval, reduceCtorEq] at hfD
      simp only [push_cast, seval, reduceCtorEq, hfD]
      refine (limited_ok _ _ _).pure trivial ?_
      rcases Nat.lt_or_ge 1000 (mergeL l m).length with h | h
      · simp only [push_cast, seval, reduceCtorEq, h]
        exact ⟨[], List.nil_sublist _, _, by simp [mergeR, hr, hp, limR, h], .inl ⟨by simp [mergeR, hr, hp, limR, h], rfl, rfl⟩⟩
      · have h' : ¬ 1000 < (mergeL l m).length := by omega
        simp only [push_cast, seval, reduceCtorEq, h']
        have h'' : mergeR l m = (mergeL l m, 0) := by simp [mergeR, hr, hp, limR, h']
        exact ⟨_, (List.Sublist.refl _).cons _, _, by rw [h''], by rw [h'']; exact .inr ⟨bo, co, h0, rfl, hco, rfl⟩⟩
theorem put_ok {Hf : Hp} {l : List Sl} {v : Value} {k w : W} (hd : derE Hf Hf) (hm : marksOf Hf = []) (hl : SlR Hf l v) : CallsV Tryz.prog 69 [v, k.v, w.v] Hf (OutE 67 (mergeR l [⟨k, w⟩])) := by
  refine callsO gB_ok Tryz.mix Tryz.pl69 Tryz.func69 rfl Tryz.ntmps69 Tryz.results69 rfl (by first | rfl | assumption) (Nat.le_of_ble_eq_true rfl) (by kernel_rfl) ?_
  simp only [push_cast, seval, reduceCtorEq]
  intro b4 hb4 b5 hb5
  simp only [push_cast, seval, reduceCtorEq, hb4, hb5, Sl.pair]
  intro b6 hb6
  have h1 := ((hl.cons (e := ⟨b4, 0, .cel 28, k.cells⟩) hb4).cons (e := ⟨b5, 0, .cel 28, w.cells⟩) ⟨hb5.1, hb5.2.1, hb5.2.2⟩)
  have h2 : SlR (⟨b6, 0, .vec 67 8 1, (Sl.mk k w).cells⟩ :: ⟨b5, 0, .cel 28, w.cells⟩ :: ⟨b4, 0, .cel 28, k.cells⟩ :: Hf) [⟨k, w⟩] (.slice (some ⟨b6, 0, none⟩) 1 1) :=
    ⟨_, 1, rfl, .inr ⟨b6, 0, rfl, by simp only [push_cast, seval, reduceCtorEq, List.length_singleton]⟩⟩
  have h3 := h1.cons (e := ⟨b6, 0, .vec 67 8 1, (Sl.mk k w).cells⟩) (by simp only [push_cast, seval, reduceCtorEq, hb6])
  obtain ⟨H2, q1, q2, q3, q4, q5⟩ := h3.two h2
  refine (merge_ok q2 q3 q4 q5).use q1 ?_
  rintro _ N ⟨w', rfl, ho⟩
  refine ⟨ho.wr.1, ho.wr.2, fun hf => ?_⟩
  simp only [push_cast, seval, reduceCtorEq]
  refine ⟨N, ?_, w', rfl, ho⟩
  rw [dropM_eq]
  · exact List.sublist_append_left _ _
  · rw [marks_append, ho.wr.2]; simp [marksOf, hm]
end Go.Proofs.YtpcjmmdgopihcaaGreatDoor
set_option linter.unusedSimpArgs false
set_option linter.unusedVariables false
namespace Go.Ev
def pickN (c n : Int) : Nat := ((if c < 0 then -(c + 1) else c) % n).toNat
theorem pickN_lt (c : Int) {n : Int} (h : 0 < n) : (pickN c n : Int) < n := by
  unfold pickN
  have := Int.emod_nonneg (if c < 0 then -(c + 1) else c) (by omega : n ≠ 0)
  have := Int.emod_lt_of_pos (if c < 0 then -(c + 1) else c) h
  omega
def i64In (c : Int) : Prop := -9223372036854775808 ≤ c ∧ c ≤ 9223372036854775807
instance (c : Int) : Decidable (i64In c) := inferInstanceAs (Decidable (_ ∧ _))
def pickG : List Value → Option Value
  | [.int .i64 c, .int .i64 n] => if i64In c ∧ 0 < n ∧ i64In n then some (.int .i64 (pickN c n)) else none
  | _ => none
attribute [push_cast] pickG
def prC (l : List (Int × Int)) : List Value := l.flatMap fun x => [.int .i64 x.1, .int .i64 x.2]
theorem prC_len (l : List (Int × Int)) : (prC l).length = l.length * 2 := by
  unfold prC
  induction l with
  | nil => rfl
  | cons x r ih => simp only [List.flatMap_cons, List.length_append, ih, List.length_cons, List.length_nil]; omega
theorem prC_drop (l : List (Int × Int)) (i : Nat) : (prC l).drop (i * 2) = prC (l.drop i) := by
  induction l generalizing i with
  | nil => simp [prC]
  | cons x r ih =>
    cases i with
    | zero => simp
    | succ i =>
      rw [show prC (x :: r) = .int .i64 x.1 :: .int .i64 x.2 :: prC r from rfl, show (i + 1) * 2 = i * 2 + 1 + 1 by omega, List.drop_succ_cons, List.drop_succ_cons, ih, List.drop_succ_cons]
theorem prC_at {l : List (Int × Int)} {i : Nat} {x : Int × Int} (h : l[i]? = some x) : i * 2 + 1 ≤ (prC l).length ∧ i * 2 + 1 + 1 ≤ (prC l).length ∧
    List.take 1 (List.drop (i * 2) (prC l)) = [.int .i64 x.1] ∧ List.take 1 (List.drop (i * 2 + 1) (prC l)) = [.int .i64 x.2] := by
  have hi := (List.getElem?_eq_some_iff.1 h).1
  have hd : l.drop i = x :: l.drop (i + 1) := by
    rw [List.drop_eq_getElem_cons hi, (List.getElem?_eq_some_iff.1 h).2]
  rw [prC_len, ← List.drop_drop, prC_drop, hd]
  refine ⟨by omega, by omega, ?_, ?_⟩ <;> rfl
def PrH (l : List (Int × Int)) (v : Value) (Hf : Hp) : Prop := ∃ p c, v = .slice p l.length c ∧ ((l = [] ∧ Hf = []) ∨ ∃ b o, p = some ⟨b, o, none⟩ ∧ Hf = [⟨b, o, .ro, prC l⟩])
def W.lo (n : Nat) : W := ⟨n % 18446744073709551616, 0, 0, 0, Nat.mod_lt _ (by decide), by decide, by decide, by decide⟩
theorem W.lo_agg {n : Nat} (h : n < 18446744073709551616) : Value.agg #[.int .u64 (n : Int), .int .u64 0, .int .u64 0, .int .u64 0] = (W.lo n).v := by
  unfold W.lo W.v W.cells; simp only [Nat.mod_eq_of_lt h]; rfl
theorem W.take3A (x : W) (l : List Value) : List.take 3 (x.cells ++ l) = [.int .u64 x.a, .int .u64 x.b, .int .u64 x.c] := rfl
theorem W.all2 (x y : W) : (x.cells ++ y.cells).all oneC = true := rfl
attribute [push_cast] W.all2 W.take3A
def mkKey (c : Int) : W := ⟨(W.lo (pickN c 24)).a, 0, 0, if pickN c 5 = 0 then 7 else 0, (W.lo _).ha, by decide, by decide, by split <;> decide⟩
def W.nine : W := ⟨0, 0, 0, 9, by decide, by decide, by decide, by decide⟩
def mkVal (c : Int) (noughts : Bool) : W := if pickN c 5 = 0 then (if noughts then W.zero else W.nine) else W.lo (pickN c 5)
def mkSl (noughts : Bool) (r : Int × Int) : Sl := ⟨mkKey r.1, mkVal r.2 noughts⟩
def insS (x : Sl) : List Sl → Bool → List Sl
  | [], d => if d then [] else [x]
  | y :: r, d => (if !d && decide (x.key.num ≤ y.key.num) then [x] else []) ++ ((if y.key = x.key then [] else [y]) ++ insS x r (d || decide (x.key.num ≤ y.key.num)))
def slotsL (noughts : Bool) : List (Int × Int) → List Sl → List Sl
  | [], out => out
  | r :: rs, out => slotsL noughts rs (insS (mkSl noughts r) out false)
theorem slC_cons (x : Sl) (r : List Sl) : slC (x :: r) = x.cells ++ slC r := rfl
theorem slC_nil : slC [] = [] := rfl
theorem insS_ne (x : Sl) : ∀ (l : List Sl), x ∈ insS x l false
  | [] => by simp [insS]
  | y :: r => by
    simp only [insS, Bool.not_false, Bool.true_and, Bool.false_or]
    by_cases h : x.key.num ≤ y.key.num
    · simp [h]
    · simp only [h, decide_false]
      exact List.mem_append_right _ (List.mem_append_right _ (insS_ne x r))
theorem insS_len (x : Sl) : ∀ (l : List Sl) (d : Bool), (insS x l d).length ≤ l.length + 1
  | [], d => by cases d <;> simp [insS]
  | y :: r, d => by
    have h1 := insS_len x r (d || decide (x.key.num ≤ y.key.num))
    have h2 : d = true ∨ decide (x.key.num ≤ y.key.num) = true → (insS x r (d || decide (x.key.num ≤ y.key.num))).length ≤ r.length := fun h => by
      have : (d || decide (x.key.num ≤ y.key.num)) = true := by simpa using h
      rw [this]; exact insS_len2 r
    simp only [insS, List.length_append, List.length_cons]
    cases d <;> cases hd : decide (x.key.num ≤ y.key.num) <;> simp [hd] at h1 h2 ⊢ <;> split <;> simp <;> omega
where insS_len2 {x : Sl} : ∀ (l : List Sl), (insS x l true).length ≤ l.length
  | [] => by simp [insS]
  | y :: r => by
    have := insS_len2 (x := x) r
    simp only [insS, List.length_append, List.length_cons, Bool.true_or, Bool.not_true, Bool.false_and, Bool.false_eq_true, if_false, List.length_nil]
    split <;> simp <;> omega
end Go.Ev
namespace Go.Proofs.YtpcjmmdgopihcaaGreatDoor
open Go Go.Ev Go.Proofs
set_option maxRecDepth 100000
set_option maxHeartbeats 4000000
theorem pick_ok (c n : Int) (hc : i64In c) (hn : 0 < n) (hn2 : i64In n) : CallsV Tryz.prog 60 [.int .i64 c, .int .i64 n] [] (Ret0 (.int .i64 (pickN c n))) := by
  have hn0 : ¬ n = 0 := by omega
  have h2 := pickN_lt c hn
  unfold i64In at hc hn2
  refine callsO (noG_ok _) Tryz.mix Tryz.pl60 Tryz.func60 rfl Tryz.ntmps60 Tryz.results60 rfl (by first | rfl | assumption) (Nat.le_of_ble_eq_true rfl) (by kernel_rfl) ?_
  rcases Int.lt_or_le c 0 with h | h
  · have e1 : pickN c n = (-(c + 1)).tmod n := by
      have := Int.emod_nonneg (-(c + 1)) hn0
      unfold pickN; rw [if_pos h, Int.tmod_eq_emod_of_nonneg (by omega)]; omega
    have e2 : (0 - (c + 1)) = -(c + 1) := by omega
    simp only [push_cast, seval, reduceCtorEq, h, wrap_i64' (show -9223372036854775808 ≤ c + 1 ∧ c + 1 ≤ 9223372036854775807 by omega), hn0, e2, wrap_i64' (show -9223372036854775808 ≤ -(c + 1) ∧ -(c + 1) ≤ 9223372036854775807 by omega), e1]
  · have h' : ¬ c < 0 := by omega
    have e1 : pickN c n = c.tmod n := by
      have := Int.emod_nonneg c hn0
      unfold pickN; rw [if_neg h', Int.tmod_eq_emod_of_nonneg (by omega)]; omega
    simp only [push_cast, seval, reduceCtorEq, h', hn0, e1]
noncomputable def gC : Gam := addG 60 pickG gB
attribute [push_cast] gC
theorem gC_ok : GamOk Tryz.prog gC := by
  refine addG_ok (fun args v h => ?_) gB_ok
  unfold pickG at h
  split at h
  · split at h
    · rename_i c n hh; cases h; exact pick_ok c n hh.1 hh.2.1 hh.2.2
    · cases h
  · cases h
theorem slots_ok {Hf : Hp} {raw : List (Int × Int)} {v : Value} {noughts : Bool} (hv : PrH raw v Hf) (hb : ∀ x ∈ raw, i64In x.1 ∧ i64In x.2) (hn : raw.length ≤ 9223372036854775807) :
    CallsV Tryz.prog 30 [v, .bool noughts] Hf (OutS 67 (slotsL noughts (raw.take 20) [])) := by
  obtain ⟨p, c, rfl, ⟨rfl, rfl⟩ | ⟨br, orr, rfl, rfl⟩⟩ := hv
  · refine callsO gC_ok Tryz.mix Tryz.pl30 Tryz.func30 rfl Tryz.ntmps30 Tryz.results30 rfl (by first | rfl | assumption) (Nat.le_of_ble_eq_true rfl) (by kernel_rfl) ?_
    simp only [push_cast, seval, reduceCtorEq]
    refine unrollO gC_ok (pl := Tryz.pl30) Tryz.mix 1 (by kernel_rfl) ?_
    simp only [push_cast, seval, reduceCtorEq, Int.lt_irrefl]
    exact sub0 (.inl ⟨rfl, rfl, rfl⟩)
  refine callsO gC_ok Tryz.mix Tryz.pl30 Tryz.func30 rfl Tryz.ntmps30 Tryz.results30 rfl (by first | rfl | assumption) (Nat.le_of_ble_eq_true rfl) (by kernel_rfl) ?_
  simp only [push_cast, seval, reduceCtorEq]
  refine loopO gC_ok (pl := Tryz.pl30) Tryz.mix (X := Nat × List Sl × Value × Hp)
    (fun s => ([(0, .slice (some ⟨br, orr, none⟩) raw.length c), (1, .bool noughts), (5, s.2.2.1), (6, .int .i64 s.1)], s.2.2.2 ++ [⟨br, orr, .ro, prC raw⟩]))
    (fun s => s.1 ≤ 20 ∧ s.1 ≤ raw.length ∧ slotsL noughts ((raw.take 20).drop s.1) s.2.1 = slotsL noughts (raw.take 20) [] ∧ s.2.1.length ≤ s.1 ∧ OutS 67 s.2.1 s.2.2.1 s.2.2.2 ∧ freshN s.2.2.2 [⟨br, 0, .ro, []⟩])
    (fun s => 20 - s.1) (0, [], .slice none 0 0, []) ?_ ?_ (by kernel_rfl) ?_
  · exact ⟨by omega, by omega, rfl, by simp, .inl ⟨rfl, rfl, rfl⟩, trivial⟩
  · simp only [push_cast, seval, reduceCtorEq]
  · rintro ⟨i, out, vo, No⟩ ⟨hi, hir, hs, hol, ho, hfo⟩
    dsimp only at hi hir hs hol ho hfo ⊢
    rcases Nat.lt_or_ge i raw.length with hlt | hge
    · rcases Nat.lt_or_ge i 20 with h20 | h20
      · obtain ⟨r, hr⟩ : ∃ x, raw[i]? = some x := ⟨raw[i], List.getElem?_eq_getElem hlt⟩
        have hat := prC_at hr
        have hbr := hb r (List.mem_of_getElem? hr)
        have e1 : (i : Int) < 20 := by omega
        have p24 := pickN_lt r.1 (n := 24) (by omega)
        have p5 := pickN_lt r.1 (n := 5) (by omega)
        have q5 := pickN_lt r.2 (n := 5) (by omega)
        have u1 := wrap_u64' (n := (pickN r.1 24 : Int)) (by omega)
        have u2 := wrap_u64' (n := (pickN r.2 5 : Int)) (by omega)
        have l1 := W.lo_agg (n := pickN r.1 24) (by omega)
        have l2 := W.lo_agg (n := pickN r.2 5) (by omega)
        have b24 : i64In 24 := by decide
        have b5 : i64In 5 := by decide
        have hfb : findE (No ++ [⟨br, orr, .ro, prC raw⟩]) br = some ⟨br, orr, .ro, prC raw⟩ := by
          rw [findE_skip]
          · simp [findE]
          · intro x hx h
            exact freshN_ne hfo x hx ⟨br, 0, .ro, []⟩ (by simp) h.symm
        simp only [push_cast, seval, reduceCtorEq, hlt, hat, e1, hfb, hbr, b24, b5, u1, u2, l1, l2]
        intro b7 hb7
        have hf7 := fresh_find hb7 hfb
        simp only [push_cast, seval, reduceCtorEq, hb7]
        obtain ⟨x, hx⟩ : ∃ x, x = mkSl noughts r := ⟨_, rfl⟩
        refine (fun inner => ?main : ((T : Tm) → (H : Hp) → subT T [(0, .slice (some ⟨br, orr, none⟩) raw.length c), (1, .bool noughts), (5, vo), (6, .int .i64 i), (7, .pointer (some ⟨b7, 0, none⟩)), (8, .slice none 0 0), (9, .bool false), (10, .int .i64 0)] →
          subH H (⟨b7, 0, .cel 67, x.cells⟩ :: (No ++ [⟨br, orr, .ro, prC raw⟩])) → marksOf H = [] → WpV Tryz.prog none 103 (.loop ?c) ?K T H) → _) ?inner
        case main =>
          have hz : decide (W.lo (pickN r.2 5) = W.zero) = decide (pickN r.2 5 = 0) := by
            rw [Bool.eq_iff_iff, decide_eq_true_eq, decide_eq_true_eq]
            constructor
            · intro h
              have := congrArg W.a h
              simp only [W.lo, W.zero] at this
              omega
            · intro h; rw [h]; rfl
          by_cases c1 : pickN r.1 5 = 0
          · have h1 : ((pickN r.1 5 : Int) == 0) = true := by rw [c1]; rfl
            by_cases c2 : ¬ pickN r.2 5 = 0
            · have h2 : decide (W.lo (pickN r.2 5) = W.zero) = false := by rw [hz]; simpa using c2
              simp only [push_cast, seval, reduceCtorEq, h1, h2, hf7, hfb, hlt, hat, hbr, b24, b5]
              refine inner _ _ ?_ ?_ ?_
              · simp only [push_cast, seval, reduceCtorEq]
              · rw [hx]
                simp only [Sl.cells, W.cells, mkSl, mkKey, mkVal, c1, c2, if_true, if_false, W.nine, W.zero, W.lo, List.cons_append, List.nil_append, Bool.false_eq_true]
                exact subH_self _
              · simp only [push_cast, seval, reduceCtorEq, marks_append, ho.wr.2]
            · have h2 : decide (W.lo (pickN r.2 5) = W.zero) = true := by rw [hz]; simpa using c2
              replace c2 := Decidable.not_not.1 c2
              simp only [push_cast, seval, reduceCtorEq, h1, h2, hf7, hfb, hlt, hat, hbr, b24, b5]
              simp only [sel_ite, decide_eq_true_eq, bne_iff_ne, ne_eq, beq_iff_eq]
              split
              · rename_i hnn
                replace hnn : noughts = false := by simpa using hnn
                refine inner _ _ ?_ ?_ ?_
                · simp only [push_cast, seval, reduceCtorEq]
                · rw [hx]
                  simp only [Sl.cells, W.cells, mkSl, mkKey, mkVal, c1, c2, hnn, if_true, if_false, W.nine, W.zero, W.lo, List.cons_append, List.nil_append, Bool.false_eq_true]
                  exact subH_self _
                · simp only [push_cast, seval, reduceCtorEq, marks_append, ho.wr.2]
              · rename_i hnn
                replace hnn : noughts = true := by simpa using hnn
                refine inner _ _ ?_ ?_ ?_
                · simp only [push_cast, seval, reduceCtorEq]
                · rw [hx]
                  simp only [Sl.cells, W.cells, mkSl, mkKey, mkVal, c1, c2, hnn, if_true, if_false, W.nine, W.zero, W.lo, List.cons_append, List.nil_append, Bool.false_eq_true]
                  exact subH_self _
                · simp only [push_cast, seval, reduceCtorEq, marks_append, ho.wr.2]
          · have h1 : ((pickN r.1 5 : Int) == 0) = false := by rw [beq_eq_false_iff_ne]; omega
            by_cases c2 : ¬ pickN r.2 5 = 0
            · have h2 : decide (W.lo (pickN r.2 5) = W.zero) = false := by rw [hz]; simpa using c2
              simp only [push_cast, seval, reduceCtorEq, h1, h2, hf7, hfb, hlt, hat, hbr, b24, b5]
              refine inner _ _ ?_ ?_ ?_
              · simp only [push_cast, seval, reduceCtorEq]
              · rw [hx]
                simp only [Sl.cells, W.cells, mkSl, mkKey, mkVal, c1, c2, if_true, if_false, W.nine, W.zero, W.lo, List.cons_append, List.nil_append, Bool.false_eq_true]
                exact subH_self _
              · simp only [push_cast, seval, reduceCtorEq, marks_append, ho.wr.2]
            · have h2 : decide (W.lo (pickN r.2 5) = W.zero) = true := by rw [hz]; simpa using c2
              replace c2 := Decidable.not_not.1 c2
              simp only [push_cast, seval, reduceCtorEq, h1, h2, hf7, hfb, hlt, hat, hbr, b24, b5]
              simp only [sel_ite, decide_eq_true_eq, bne_iff_ne, ne_eq, beq_iff_eq]
              split
              · rename_i hnn
                replace hnn : noughts = false := by simpa using hnn
                refine inner _ _ ?_ ?_ ?_
                · simp only [push_cast, seval, reduceCtorEq]
                · rw [hx]
                  simp only [Sl.cells, W.cells, mkSl, mkKey, mkVal, c1, c2, hnn, if_true, if_false, W.nine, W.zero, W.lo, List.cons_append, List.nil_append, Bool.false_eq_true]
                  exact subH_self _
                · simp only [push_cast, seval, reduceCtorEq, marks_append, ho.wr.2]
              · rename_i hnn
                replace hnn : noughts = true := by simpa using hnn
                refine inner _ _ ?_ ?_ ?_
                · simp only [push_cast, seval, reduceCtorEq]
                · rw [hx]
                  simp only [Sl.cells, W.cells, mkSl, mkKey, mkVal, c1, c2, hnn, if_true, if_false, W.nine, W.zero, W.lo, List.cons_append, List.nil_append, Bool.false_eq_true]
                  exact subH_self _
                · simp only [push_cast, seval, reduceCtorEq, marks_append, ho.wr.2]
        case inner =>
          intro T H hT hH hm
          have hns : slotsL noughts ((raw.take 20).drop (i + 1)) (insS x out false) = slotsL noughts (raw.take 20) [] := by
            rw [← hs, List.drop_eq_getElem_cons (l := raw.take 20) (i := i) (by simp; omega), slotsL, hx]
            congr 2
            rw [List.getElem_take, (List.getElem?_eq_some_iff.1 hr).2]
          have hlen : (insS x out false).length ≤ 21 := by have := insS_len x out false; omega
          rcases ho with ⟨h0, rfl, rfl⟩ | ⟨bo, co, h0, rfl, hco, rfl⟩
          · subst h0
            refine WpV.sub (s := (_, _)) ⟨hT, hH, by rw [hm]; rfl⟩ ?_
            refine unrollO gC_ok (pl := Tryz.pl30) Tryz.mix 1 (by kernel_rfl) ?_
            simp only [push_cast, seval, reduceCtorEq] at hb7
            simp only [push_cast, seval, reduceCtorEq, Int.lt_irrefl, Sl.agg]
            intro b9 hb9
            try simp only [push_cast, seval, reduceCtorEq, hb7, hb9]
            refine ⟨by unfold two47; omega, fun b10 c10 hb10 hc10 => ?_⟩
            simp only [push_cast, seval, reduceCtorEq, hb7, hb9, hb10, wrap_i64' (show -9223372036854775808 ≤ (i : Int) + 1 ∧ (i : Int) + 1 ≤ 9223372036854775807 by omega)]
            refine ⟨(i + 1, [x], .slice (some ⟨b10, 0, none⟩) 1 c10, [⟨b10, 0, .vec 67 8 c10, slC [x]⟩]), ⟨h20, hlt, hns, ?_, .inr ⟨b10, c10, by simp, rfl, hc10, rfl⟩, ?_⟩, ?_, ?_⟩
            · dsimp only [List.length_singleton]; omega
            · simp only [push_cast, seval, reduceCtorEq, hb10]
            · dsimp only; omega
            · simp only [push_cast, seval, reduceCtorEq, hb10, hb9, hb7]
          · simp only [push_cast, seval, reduceCtorEq] at hb7 hfo
            have hdr : ∀ (k : Nat) (y : Sl), out[k]? = some y → ∀ d, insS x (out.drop k) d = (if !d && decide (x.key.num ≤ y.key.num) then [x] else []) ++ ((if y.key = x.key then [] else [y]) ++ insS x (out.drop (k + 1)) (d || decide (x.key.num ≤ y.key.num))) := fun k y hy d => by
              have hk := (List.getElem?_eq_some_iff.1 hy).1
              rw [List.drop_eq_getElem_cons hk, (List.getElem?_eq_some_iff.1 hy).2, insS]
            refine loopO gC_ok (pl := Tryz.pl30) Tryz.mix (X := Nat × Bool × List Sl × Value × Hp)
              (fun s => ([(0, .slice (some ⟨br, orr, none⟩) raw.length c), (1, .bool noughts), (5, .slice (some ⟨bo, 0, none⟩) out.length co), (6, .int .i64 i), (7, .pointer (some ⟨b7, 0, none⟩)), (8, s.2.2.2.1), (9, .bool s.2.1), (10, .int .i64 s.1)],
                ⟨b7, 0, .cel 67, x.cells⟩ :: (s.2.2.2.2 ++ [⟨bo, 0, .vec 67 8 co, slC out⟩, ⟨br, orr, .ro, prC raw⟩])))
              (fun s => s.1 ≤ out.length ∧ s.2.2.1 ++ insS x (out.drop s.1) s.2.1 = insS x out false ∧ OutS 67 s.2.2.1 s.2.2.2.1 s.2.2.2.2 ∧ freshN s.2.2.2.2 [⟨b7, 0, .ro, []⟩, ⟨bo, 0, .ro, []⟩, ⟨br, 0, .ro, []⟩])
              (fun s => out.length - s.1) (0, false, [], .slice none 0 0, []) ⟨Nat.zero_le _, rfl, .inl ⟨rfl, rfl, rfl⟩, trivial⟩ ⟨hT, hH, by rw [hm]; rfl⟩ (by kernel_rfl) ?_
            rintro ⟨k, d, now, wn, Nn⟩ ⟨hk, hnow, hon, hfn⟩
            dsimp only at hk hnow hon hfn ⊢
            have hnl : now.length ≤ 21 := by
              have := congrArg List.length hnow
              rw [List.length_append] at this
              omega
            rcases Nat.lt_or_ge k out.length with hkl | hkg
            · obtain ⟨y, hy⟩ : ∃ x, out[k]? = some x := ⟨out[k], List.getElem?_eq_getElem hkl⟩
              have haty := slC_at hy
              rw [hdr k y hy] at hnow
              have w1 := wrap_i64' (show -9223372036854775808 ≤ (k : Int) + 1 ∧ (k : Int) + 1 ≤ 9223372036854775807 by omega)
              have hkk0 : y.key = x.key ∨ ¬ y.key = x.key := Decidable.em _
              rcases hon with ⟨n0, rfl, rfl⟩ | ⟨bn, cn, n0, rfl, hcn, rfl⟩
              · subst n0
                cases d
                · rcases Nat.lt_or_ge y.key.num x.key.num with hle | hle
                  · have hcm : ¬ (0 : Int) ≤ y.key.cmp x.key := by have := W.cmp_neg.2 hle; omega
                    have hdl2 : (x.key.num ≤ y.key.num) = False := eq_false (by omega)
                    rcases hkk0 with hke | hke
                    · have hke2 : (y.key = x.key) = True := eq_true hke
                      have hkk : decide (y.key = x.key) = true := by simpa using hke
                      simp only [hke2, hdl2, Bool.not_false, Bool.not_true, Bool.true_and, Bool.false_and, Bool.and_true, Bool.and_false, Bool.true_or, Bool.false_or, Bool.or_true, decide_true, decide_false, if_true, if_false, Bool.false_eq_true, List.nil_append, List.append_nil] at hnow
                      simp only [push_cast, seval, reduceCtorEq, hb7, hfo, hkl, haty, w1, hkk, Sl.agg, Sl.len, Sl.eta, hcm]
                      refine ⟨(k + 1, false, [], .slice none 0 0, []), ⟨hkl, by simpa using hnow, .inl ⟨rfl, rfl, rfl⟩, trivial⟩, ?_, ?_⟩
                      · dsimp only; omega
                      · simp only [push_cast, seval, reduceCtorEq, slC_app, slC_cons, slC_nil, hb7, hfo]
                    · have hke2 : (y.key = x.key) = False := eq_false hke
                      have hkk : decide (y.key = x.key) = false := by simpa using hke
                      simp only [hke2, hdl2, Bool.not_false, Bool.not_true, Bool.true_and, Bool.false_and, Bool.and_true, Bool.and_false, Bool.true_or, Bool.false_or, Bool.or_true, decide_true, decide_false, if_true, if_false, Bool.false_eq_true, List.nil_append, List.append_nil] at hnow
                      simp only [push_cast, seval, reduceCtorEq, hb7, hfo, hkl, haty, w1, hkk, Sl.agg, Sl.len, Sl.eta, hcm]
                      intro b20 hb20
                      try simp only [push_cast, seval, reduceCtorEq, hb7, hfo, hkl, haty, w1, hkk, Sl.agg, Sl.len, Sl.eta, hcm, hb20]
                      refine ⟨by unfold two47; omega, fun b21 c21 hb21 hcb21 => ?_⟩
                      simp only [push_cast, seval, reduceCtorEq, hb7, hfo, hkl, haty, w1, hkk, Sl.agg, Sl.len, Sl.eta, hcm, hb20, hb21]
                      refine ⟨(k + 1, false, [y], .slice (some ⟨b21, 0, none⟩) (1) c21, [⟨b21, 0, .vec 67 8 c21, slC ([y])⟩]), ⟨hkl, by simpa using hnow, .inr ⟨b21, c21, by simp, by simp, by simpa using hcb21, rfl⟩, by simp only [push_cast, seval, reduceCtorEq, hb21]⟩, ?_, ?_⟩
                      · dsimp only; omega
                      · simp only [push_cast, seval, reduceCtorEq, slC_app, slC_cons, slC_nil, hb7, hfo, hb20, hb21]
                  · have hcm : (0 : Int) ≤ y.key.cmp x.key := by have := mt W.cmp_neg.1 (Nat.not_lt.2 hle); omega
                    have hdl2 : (x.key.num ≤ y.key.num) = True := eq_true hle
                    rcases hkk0 with hke | hke
                    · have hke2 : (y.key = x.key) = True := eq_true hke
                      have hkk : decide (y.key = x.key) = true := by simpa using hke
                      simp only [hke2, hdl2, Bool.not_false, Bool.not_true, Bool.true_and, Bool.false_and, Bool.and_true, Bool.and_false, Bool.true_or, Bool.false_or, Bool.or_true, decide_true, decide_false, if_true, if_false, Bool.false_eq_true, List.nil_append, List.append_nil] at hnow
                      simp only [push_cast, seval, reduceCtorEq, hb7, hfo, hkl, haty, w1, hkk, Sl.agg, Sl.len, Sl.eta, hcm]
                      intro b20 hb20
                      try simp only [push_cast, seval, reduceCtorEq, hb7, hfo, hkl, haty, w1, hkk, Sl.agg, Sl.len, Sl.eta, hcm, hb20]
                      refine ⟨by unfold two47; omega, fun b21 c21 hb21 hcb21 => ?_⟩
                      simp only [push_cast, seval, reduceCtorEq, hb7, hfo, hkl, haty, w1, hkk, Sl.agg, Sl.len, Sl.eta, hcm, hb20, hb21]
                      refine ⟨(k + 1, true, [x], .slice (some ⟨b21, 0, none⟩) (1) c21, [⟨b21, 0, .vec 67 8 c21, slC ([x])⟩]), ⟨hkl, by simpa using hnow, .inr ⟨b21, c21, by simp, by simp, by simpa using hcb21, rfl⟩, by simp only [push_cast, seval, reduceCtorEq, hb21]⟩, ?_, ?_⟩
                      · dsimp only; omega
                      · simp only [push_cast, seval, reduceCtorEq, slC_app, slC_cons, slC_nil, hb7, hfo, hb20, hb21]
                    · have hke2 : (y.key = x.key) = False := eq_false hke
                      have hkk : decide (y.key = x.key) = false := by simpa using hke
                      simp only [hke2, hdl2, Bool.not_false, Bool.not_true, Bool.true_and, Bool.false_and, Bool.and_true, Bool.and_false, Bool.true_or, Bool.false_or, Bool.or_true, decide_true, decide_false, if_true, if_false, Bool.false_eq_true, List.nil_append, List.append_nil] at hnow
                      simp only [push_cast, seval, reduceCtorEq, hb7, hfo, hkl, haty, w1, hkk, Sl.agg, Sl.len, Sl.eta, hcm]
                      intro b20 hb20
                      try simp only [push_cast, seval, reduceCtorEq, hb7, hfo, hkl, haty, w1, hkk, Sl.agg, Sl.len, Sl.eta, hcm, hb20]
                      refine ⟨by unfold two47; omega, fun b21 c21 hb21 hcb21 => ?_⟩
                      simp only [push_cast, seval, reduceCtorEq, hb7, hfo, hkl, haty, w1, hkk, Sl.agg, Sl.len, Sl.eta, hcm, hb20, hb21]
                      intro b22 hb22
                      try simp only [push_cast, seval, reduceCtorEq, hb7, hfo, hkl, haty, w1, hkk, Sl.agg, Sl.len, Sl.eta, hcm, hb20, hb21, hb22]
                      refine ⟨by unfold two47; omega, fun b23 c23 hb23 hcb23 => ?_⟩
                      simp only [push_cast, seval, reduceCtorEq, hb7, hfo, hkl, haty, w1, hkk, Sl.agg, Sl.len, Sl.eta, hcm, hb20, hb21, hb22, hb23]
                      refine ⟨(k + 1, true, [x] ++ [y], .slice (some ⟨b23, 0, none⟩) (2) c23, [⟨b23, 0, .vec 67 8 c23, slC ([x] ++ [y])⟩]), ⟨hkl, by simpa using hnow, .inr ⟨b23, c23, by simp, by simp, by simpa using hcb23, rfl⟩, by simp only [push_cast, seval, reduceCtorEq, hb23]⟩, ?_, ?_⟩
                      · dsimp only; omega
                      · simp only [push_cast, seval, reduceCtorEq, slC_app, slC_cons, slC_nil, hb7, hfo, hb20, hb21, hb22, hb23]
                · rcases hkk0 with hke | hke
                  · have hke2 : (y.key = x.key) = True := eq_true hke
                    have hkk : decide (y.key = x.key) = true := by simpa using hke
                    simp only [hke2,  Bool.not_false, Bool.not_true, Bool.true_and, Bool.false_and, Bool.and_true, Bool.and_false, Bool.true_or, Bool.false_or, Bool.or_true, decide_true, decide_false, if_true, if_false, Bool.false_eq_true, List.nil_append, List.append_nil] at hnow
                    simp only [push_cast, seval, reduceCtorEq, hb7, hfo, hkl, haty, w1, hkk, Sl.agg, Sl.len, Sl.eta]
                    refine ⟨(k + 1, true, [], .slice none 0 0, []), ⟨hkl, by simpa using hnow, .inl ⟨rfl, rfl, rfl⟩, trivial⟩, ?_, ?_⟩
                    · dsimp only; omega
                    · simp only [push_cast, seval, reduceCtorEq, slC_app, slC_cons, slC_nil, hb7, hfo]
                  · have hke2 : (y.key = x.key) = False := eq_false hke
                    have hkk : decide (y.key = x.key) = false := by simpa using hke
                    simp only [hke2,  Bool.not_false, Bool.not_true, Bool.true_and, Bool.false_and, Bool.and_true, Bool.and_false, Bool.true_or, Bool.false_or, Bool.or_true, decide_true, decide_false, if_true, if_false, Bool.false_eq_true, List.nil_append, List.append_nil] at hnow
                    simp only [push_cast, seval, reduceCtorEq, hb7, hfo, hkl, haty, w1, hkk, Sl.agg, Sl.len, Sl.eta]
                    intro b20 hb20
                    try simp only [push_cast, seval, reduceCtorEq, hb7, hfo, hkl, haty, w1, hkk, Sl.agg, Sl.len, Sl.eta, hb20]
                    refine ⟨by unfold two47; omega, fun b21 c21 hb21 hcb21 => ?_⟩
                    simp only [push_cast, seval, reduceCtorEq, hb7, hfo, hkl, haty, w1, hkk, Sl.agg, Sl.len, Sl.eta, hb20, hb21]
                    refine ⟨(k + 1, true, [y], .slice (some ⟨b21, 0, none⟩) (1) c21, [⟨b21, 0, .vec 67 8 c21, slC ([y])⟩]), ⟨hkl, by simpa using hnow, .inr ⟨b21, c21, by simp, by simp, by simpa using hcb21, rfl⟩, by simp only [push_cast, seval, reduceCtorEq, hb21]⟩, ?_, ?_⟩
                    · dsimp only; omega
                    · simp only [push_cast, seval, reduceCtorEq, slC_app, slC_cons, slC_nil, hb7, hfo, hb20, hb21]
              · simp only [push_cast, seval, reduceCtorEq] at hfn
                have e8 : now.length * 8 + 8 = (now.length + 1) * 8 := by omega
                have e9 : (slC now).length = now.length * 8 := slC_len now
                cases d
                · rcases Nat.lt_or_ge y.key.num x.key.num with hle | hle
                  · have hcm : ¬ (0 : Int) ≤ y.key.cmp x.key := by have := W.cmp_neg.2 hle; omega
                    have hdl2 : (x.key.num ≤ y.key.num) = False := eq_false (by omega)
                    rcases hkk0 with hke | hke
                    · have hke2 : (y.key = x.key) = True := eq_true hke
                      have hkk : decide (y.key = x.key) = true := by simpa using hke
                      simp only [hke2, hdl2, Bool.not_false, Bool.not_true, Bool.true_and, Bool.false_and, Bool.and_true, Bool.and_false, Bool.true_or, Bool.false_or, Bool.or_true, decide_true, decide_false, if_true, if_false, Bool.false_eq_true, List.nil_append, List.append_nil] at hnow
                      simp only [push_cast, seval, reduceCtorEq, hb7, hfo, hkl, haty, w1, hkk, Sl.agg, Sl.len, Sl.eta, hcm, hfn, e9, e8]
                      refine ⟨(k + 1, false, now, .slice (some ⟨bn, 0, none⟩) now.length cn, [⟨bn, 0, .vec 67 8 cn, slC now⟩]), ⟨hkl, by simpa using hnow, .inr ⟨bn, cn, n0, rfl, hcn, rfl⟩, by simp only [push_cast, seval, reduceCtorEq, hfn]⟩, ?_, ?_⟩
                      · dsimp only; omega
                      · simp only [push_cast, seval, reduceCtorEq, slC_app, slC_cons, slC_nil, hb7, hfo, hfn]
                    · have hke2 : (y.key = x.key) = False := eq_false hke
                      have hkk : decide (y.key = x.key) = false := by simpa using hke
                      simp only [hke2, hdl2, Bool.not_false, Bool.not_true, Bool.true_and, Bool.false_and, Bool.and_true, Bool.and_false, Bool.true_or, Bool.false_or, Bool.or_true, decide_true, decide_false, if_true, if_false, Bool.false_eq_true, List.nil_append, List.append_nil] at hnow
                      simp only [push_cast, seval, reduceCtorEq, hb7, hfo, hkl, haty, w1, hkk, Sl.agg, Sl.len, Sl.eta, hcm, hfn, e9, e8]
                      intro b20 hb20
                      try simp only [push_cast, seval, reduceCtorEq, hb7, hfo, hkl, haty, w1, hkk, Sl.agg, Sl.len, Sl.eta, hcm, hfn, e9, e8, hb20]
                      refine ⟨by unfold two47; omega, fun b21 c21 hb21 hcb21 => ?_⟩
                      simp only [push_cast, seval, reduceCtorEq, hb7, hfo, hkl, haty, w1, hkk, Sl.agg, Sl.len, Sl.eta, hcm, hfn, e9, e8, hb20, hb21]
                      refine ⟨(k + 1, false, now ++ [y], .slice (some ⟨b21, 0, none⟩) (now.length + 1) c21, [⟨b21, 0, .vec 67 8 c21, slC (now ++ [y])⟩]), ⟨hkl, by simpa using hnow, .inr ⟨b21, c21, by simp, by simp, by simpa using hcb21, rfl⟩, by simp only [push_cast, seval, reduceCtorEq, hb21]⟩, ?_, ?_⟩
                      · dsimp only; omega
                      · simp only [push_cast, seval, reduceCtorEq, slC_app, slC_cons, slC_nil, hb7, hfo, hfn, hb20, hb21]
                  · have hcm : (0 : Int) ≤ y.key.cmp x.key := by have := mt W.cmp_neg.1 (Nat.not_lt.2 hle); omega
                    have hdl2 : (x.key.num ≤ y.key.num) = True := eq_true hle
                    rcases hkk0 with hke | hke
                    · have hke2 : (y.key = x.key) = True := eq_true hke
                      have hkk : decide (y.key = x.key) = true := by simpa using hke
                      simp only [hke2, hdl2, Bool.not_false, Bool.not_true, Bool.true_and, Bool.false_and, Bool.and_true, Bool.and_false, Bool.true_or, Bool.false_or, Bool.or_true, decide_true, decide_false, if_true, if_false, Bool.false_eq_true, List.nil_append, List.append_nil] at hnow
                      simp only [push_cast, seval, reduceCtorEq, hb7, hfo, hkl, haty, w1, hkk, Sl.agg, Sl.len, Sl.eta, hcm, hfn, e9, e8]
                      intro b20 hb20
                      try simp only [push_cast, seval, reduceCtorEq, hb7, hfo, hkl, haty, w1, hkk, Sl.agg, Sl.len, Sl.eta, hcm, hfn, e9, e8, hb20]
                      refine ⟨by unfold two47; omega, fun b21 c21 hb21 hcb21 => ?_⟩
                      simp only [push_cast, seval, reduceCtorEq, hb7, hfo, hkl, haty, w1, hkk, Sl.agg, Sl.len, Sl.eta, hcm, hfn, e9, e8, hb20, hb21]
                      refine ⟨(k + 1, true, now ++ [x], .slice (some ⟨b21, 0, none⟩) (now.length + 1) c21, [⟨b21, 0, .vec 67 8 c21, slC (now ++ [x])⟩]), ⟨hkl, by simpa using hnow, .inr ⟨b21, c21, by simp, by simp, by simpa using hcb21, rfl⟩, by simp only [push_cast, seval, reduceCtorEq, hb21]⟩, ?_, ?_⟩
                      · dsimp only; omega
                      · simp only [push_cast, seval, reduceCtorEq, slC_app, slC_cons, slC_nil, hb7, hfo, hfn, hb20, hb21]
                    · have hke2 : (y.key = x.key) = False := eq_false hke
                      have hkk : decide (y.key = x.key) = false := by simpa using hke
                      simp only [hke2, hdl2, Bool.not_false, Bool.not_true, Bool.true_and, Bool.false_and, Bool.and_true, Bool.and_false, Bool.true_or, Bool.false_or, Bool.or_true, decide_true, decide_false, if_true, if_false, Bool.false_eq_true, List.nil_append, List.append_nil] at hnow
                      simp only [push_cast, seval, reduceCtorEq, hb7, hfo, hkl, haty, w1, hkk, Sl.agg, Sl.len, Sl.eta, hcm, hfn, e9, e8]
                      intro b20 hb20
                      try simp only [push_cast, seval, reduceCtorEq, hb7, hfo, hkl, haty, w1, hkk, Sl.agg, Sl.len, Sl.eta, hcm, hfn, e9, e8, hb20]
                      refine ⟨by unfold two47; omega, fun b21 c21 hb21 hcb21 => ?_⟩
                      simp only [push_cast, seval, reduceCtorEq, hb7, hfo, hkl, haty, w1, hkk, Sl.agg, Sl.len, Sl.eta, hcm, hfn, e9, e8, hb20, hb21]
                      intro b22 hb22
                      try simp only [push_cast, seval, reduceCtorEq, hb7, hfo, hkl, haty, w1, hkk, Sl.agg, Sl.len, Sl.eta, hcm, hfn, e9, e8, hb20, hb21, hb22]
                      refine ⟨by unfold two47; omega, fun b23 c23 hb23 hcb23 => ?_⟩
                      simp only [push_cast, seval, reduceCtorEq, hb7, hfo, hkl, haty, w1, hkk, Sl.agg, Sl.len, Sl.eta, hcm, hfn, e9, e8, hb20, hb21, hb22, hb23]
                      refine ⟨(k + 1, true, now ++ [x] ++ [y], .slice (some ⟨b23, 0, none⟩) (now.length + 1 + 1) c23, [⟨b23, 0, .vec 67 8 c23, slC (now ++ [x] ++ [y])⟩]), ⟨hkl, by simpa using hnow, .inr ⟨b23, c23, by simp, by simp, by simpa using hcb23, rfl⟩, by simp only [push_cast, seval, reduceCtorEq, hb23]⟩, ?_, ?_⟩
                      · dsimp only; omega
                      · simp only [push_cast, seval, reduceCtorEq, slC_app, slC_cons, slC_nil, hb7, hfo, hfn, hb20, hb21, hb22, hb23]
                · rcases hkk0 with hke | hke
                  · have hke2 : (y.key = x.key) = True := eq_true hke
                    have hkk : decide (y.key = x.key) = true := by simpa using hke
                    simp only [hke2,  Bool.not_false, Bool.not_true, Bool.true_and, Bool.false_and, Bool.and_true, Bool.and_false, Bool.true_or, Bool.false_or, Bool.or_true, decide_true, decide_false, if_true, if_false, Bool.false_eq_true, List.nil_append, List.append_nil] at hnow
                    simp only [push_cast, seval, reduceCtorEq, hb7, hfo, hkl, haty, w1, hkk, Sl.agg, Sl.len, Sl.eta, hfn, e9, e8]
                    refine ⟨(k + 1, true, now, .slice (some ⟨bn, 0, none⟩) now.length cn, [⟨bn, 0, .vec 67 8 cn, slC now⟩]), ⟨hkl, by simpa using hnow, .inr ⟨bn, cn, n0, rfl, hcn, rfl⟩, by simp only [push_cast, seval, reduceCtorEq, hfn]⟩, ?_, ?_⟩
                    · dsimp only; omega
                    · simp only [push_cast, seval, reduceCtorEq, slC_app, slC_cons, slC_nil, hb7, hfo, hfn]
                  · have hke2 : (y.key = x.key) = False := eq_false hke
                    have hkk : decide (y.key = x.key) = false := by simpa using hke
                    simp only [hke2,  Bool.not_false, Bool.not_true, Bool.true_and, Bool.false_and, Bool.and_true, Bool.and_false, Bool.true_or, Bool.false_or, Bool.or_true, decide_true, decide_false, if_true, if_false, Bool.false_eq_true, List.nil_append, List.append_nil] at hnow
                    simp only [push_cast, seval, reduceCtorEq, hb7, hfo, hkl, haty, w1, hkk, Sl.agg, Sl.len, Sl.eta, hfn, e9, e8]
                    intro b20 hb20
                    try simp only [push_cast, seval, reduceCtorEq, hb7, hfo, hkl, haty, w1, hkk, Sl.agg, Sl.len, Sl.eta, hfn, e9, e8, hb20]
                    refine ⟨by unfold two47; omega, fun b21 c21 hb21 hcb21 => ?_⟩
                    simp only [push_cast, seval, reduceCtorEq, hb7, hfo, hkl, haty, w1, hkk, Sl.agg, Sl.len, Sl.eta, hfn, e9, e8, hb20, hb21]
                    refine ⟨(k + 1, true, now ++ [y], .slice (some ⟨b21, 0, none⟩) (now.length + 1) c21, [⟨b21, 0, .vec 67 8 c21, slC (now ++ [y])⟩]), ⟨hkl, by simpa using hnow, .inr ⟨b21, c21, by simp, by simp, by simpa using hcb21, rfl⟩, by simp only [push_cast, seval, reduceCtorEq, hb21]⟩, ?_, ?_⟩
                    · dsimp only; omega
                    · simp only [push_cast, seval, reduceCtorEq, slC_app, slC_cons, slC_nil, hb7, hfo, hfn, hb20, hb21]
            · have hke : k = out.length := by omega
              have e1 : ¬ (k : Int) < (out.length : Int) := by omega
              have e2 : ¬ k < out.length := by omega
              have w1 := wrap_i64' (show -9223372036854775808 ≤ (i : Int) + 1 ∧ (i : Int) + 1 ≤ 9223372036854775807 by omega)
              rw [hke, List.drop_length] at hnow
              rcases hon with ⟨n0, rfl, rfl⟩ | ⟨bn, cn, n0, rfl, hcn, rfl⟩
              · cases d
                · subst n0
                  have hx1 : insS x out false = [x] := by rw [← hnow]; rfl
                  simp only [push_cast, seval, reduceCtorEq, hb7, hfo, e2, w1, Sl.agg, Sl.len, Sl.eta]
                  intro b20 hb20
                  try simp only [push_cast, seval, reduceCtorEq, hb7, hfo, hb20, e2, w1, Sl.agg, Sl.len, Sl.eta]
                  refine ⟨by unfold two47; omega, fun b21 c21 hb21 hc21 => ?_⟩
                  try simp only [push_cast, seval, reduceCtorEq, hb7, hfo, hb20, hb21, e2, w1, Sl.agg, Sl.len, Sl.eta]
                  refine ⟨(i + 1, [x], .slice (some ⟨b21, 0, none⟩) 1 c21, [⟨b21, 0, .vec 67 8 c21, slC [x]⟩]), ⟨h20, hlt, by rw [← hx1]; exact hns, ?_, .inr ⟨b21, c21, by simp, rfl, hc21, rfl⟩, ?_⟩, ?_, ?_⟩
                  · dsimp only [List.length_singleton]; omega
                  · simp only [push_cast, seval, reduceCtorEq, hb21]
                  · dsimp only; omega
                  · simp only [push_cast, seval, reduceCtorEq, hb21, hb20, hb7, hfo]
                · subst n0
                  have := insS_ne x out
                  rw [← hnow] at this
                  simp [insS] at this
              · simp only [push_cast, seval, reduceCtorEq] at hfn
                have e8 : now.length * 8 + 8 = (now.length + 1) * 8 := by omega
                have e9 : (slC now).length = now.length * 8 := slC_len now
                cases d
                · have hx1 : insS x out false = now ++ [x] := by rw [← hnow]; rfl
                  have hl1 : (now ++ [x]).length ≤ i + 1 := by rw [← hx1]; have := insS_len x out false; omega
                  simp only [push_cast, seval, reduceCtorEq, hb7, hfo, hfn, e2, w1, e8, e9, Sl.agg, Sl.len, Sl.eta]
                  intro b20 hb20
                  try simp only [push_cast, seval, reduceCtorEq, hb7, hfo, hfn, hb20, e2, w1, e8, e9, Sl.agg, Sl.len, Sl.eta]
                  refine ⟨by unfold two47; omega, fun b21 c21 hb21 hc21 => ?_⟩
                  try simp only [push_cast, seval, reduceCtorEq, hb7, hfo, hfn, hb20, hb21, e2, w1, e8, e9, Sl.agg, Sl.len, Sl.eta]
                  refine ⟨(i + 1, now ++ [x], .slice (some ⟨b21, 0, none⟩) (now.length + 1) c21, [⟨b21, 0, .vec 67 8 c21, slC (now ++ [x])⟩]), ⟨h20, hlt, by rw [← hx1]; exact hns, hl1, .inr ⟨b21, c21, by simp, by simp, by simpa using hc21, rfl⟩, ?_⟩, ?_, ?_⟩
                  · simp only [push_cast, seval, reduceCtorEq, hb21]
                  · dsimp only; omega
                  · simp only [push_cast, seval, reduceCtorEq, slC_app, hb21, hb20, hb7, hfo, hfn]
                · have hx1 : insS x out false = now := by rw [← hnow]; simp [insS]
                  have hl1 : now.length ≤ i + 1 := by rw [← hx1]; have := insS_len x out false; omega
                  simp only [push_cast, seval, reduceCtorEq, hb7, hfo, hfn, e2, w1]
                  refine ⟨(i + 1, now, .slice (some ⟨bn, 0, none⟩) now.length cn, [⟨bn, 0, .vec 67 8 cn, slC now⟩]), ⟨h20, hlt, by rw [← hx1]; exact hns, hl1, .inr ⟨bn, cn, n0, rfl, hcn, rfl⟩, ?_⟩, ?_, ?_⟩
                  · simp only [push_cast, seval, reduceCtorEq, hfn]
                  · dsimp only; omega
                  · simp only [push_cast, seval, reduceCtorEq, hfn, hb7, hfo]
      · have e1 : ¬ (i : Int) < 20 := by omega
        have hout : out = slotsL noughts (raw.take 20) [] := by
          rw [← hs, List.drop_eq_nil_of_le (by simp; omega), slotsL]
        simp only [push_cast, seval, reduceCtorEq, hlt, e1]
        refine ⟨No, ?_, by rw [← hout]; exact ho⟩
        rw [dropM_eq (by rw [marks_append, ho.wr.2]; rfl)]
        exact List.sublist_append_left _ _
    · obtain rfl : i = raw.length := by omega
      have hout : out = slotsL noughts (raw.take 20) [] := by
        rw [← hs, List.drop_eq_nil_of_le (by simp; omega), slotsL]
      simp only [push_cast, seval, reduceCtorEq, Nat.lt_irrefl]
      refine ⟨No, ?_, by rw [← hout]; exact ho⟩
      rw [dropM_eq (by rw [marks_append, ho.wr.2]; rfl)]
      exact List.sublist_append_left _ _
end Go.Proofs.YtpcjmmdgopihcaaGreatDoor
set_option linter.unusedSimpArgs false
set_option linter.unusedVariables false
namespace Go.Ev
theorem SlR.open {H : Hp} {l : List Sl} {v : Value} (h : SlR H l v) : (l = [] ∧ ∃ p c, v = .slice p 0 c) ∨ ∃ b o c e, v = .slice (some ⟨b, o, none⟩) l.length c ∧ findE H b = some e ∧ ∀ (i : Nat) (x : Sl), l[i]? = some x →
    e.off ≤ o + i * 8 ∧ e.off ≤ o + i * 8 + 4 ∧ o + i * 8 - e.off + 8 ≤ e.cells.length ∧ o + i * 8 - e.off + 4 ≤ e.cells.length ∧ o + i * 8 + 4 - e.off + 4 ≤ e.cells.length ∧
    List.take 8 (List.drop (o + i * 8 - e.off) e.cells) = x.cells ∧ List.take 4 (List.drop (o + i * 8 - e.off) e.cells) = x.key.cells ∧ List.take 4 (List.drop (o + i * 8 + 4 - e.off) e.cells) = x.val.cells := by
  obtain ⟨p, c, rfl, rfl | ⟨b, o, rfl, h⟩⟩ := h
  · exact .inl ⟨rfl, p, c, rfl⟩
  · obtain ⟨e, he⟩ := cellsAt_find h
    refine .inr ⟨b, o, c, e, rfl, he, fun i x hx => ?_⟩
    unfold cellsAt at h
    rw [he] at h
    dsimp only at h
    split at h
    case isFalse => cases h
    rename_i hoff
    unfold subL at h
    split at h
    case isFalse => cases h
    rename_i hle
    have hcs := Option.some.inj h
    have hi := (List.getElem?_eq_some_iff.1 hx).1
    obtain ⟨a1, a2, a3, a4, a5, a6⟩ := slC_at hx
    have hd : ∀ j n, j + n ≤ l.length * 8 → List.take n (List.drop (o - e.off + j) e.cells) = List.take n (List.drop j (slC l)) := fun j n hj => by
      rw [← hcs, List.drop_take, List.take_take, List.drop_drop, Nat.min_eq_left (by omega)]
    have e1 : o + i * 8 - e.off = o - e.off + i * 8 := by omega
    have e2 : o + i * 8 + 4 - e.off = o - e.off + (i * 8 + 4) := by omega
    rw [e1, e2, hd _ _ (by omega), hd _ _ (by omega), hd _ _ (by omega), a4, a5, a6]
    exact ⟨by omega, by omega, by omega, by omega, by omega, rfl, rfl, rfl⟩
theorem same_step {a b : List Sl} {k : Nat} {x y : Sl} (h : a.take k = b.take k) (hx : a[k]? = some x) (hy : b[k]? = some y) (hxy : x = y) : a.take (k + 1) = b.take (k + 1) := by
  rw [List.take_add_one, List.take_add_one, h, hx, hy, hxy]
end Go.Ev
namespace Go.Proofs.YtpcjmmdgopihcaaGreatDoor
open Go Go.Ev Go.Proofs
set_option maxRecDepth 100000
set_option maxHeartbeats 4000000
theorem same_ok {Hf : Hp} {a b : List Sl} {v u : Value} (hm : marksOf Hf = []) (h1 : SlR Hf a v) (h2 : SlR Hf b u) (hn : a.length ≤ 2000000000000) (hn2 : b.length ≤ 2000000000000) : CallsV Tryz.prog 38 [v, u] Hf (Ret0 (.bool (decide (a = b)))) := by
  rcases h1.open with ⟨rfl, p, c, rfl⟩ | ⟨ba, oa, ca, ea, rfl, hea, hra⟩
  · obtain ⟨p', c', rfl, _⟩ := h2
    refine callsO (noG_ok _) Tryz.mix Tryz.pl38 Tryz.func38 rfl Tryz.ntmps38 Tryz.results38 rfl (by first | rfl | assumption) (Nat.le_of_ble_eq_true rfl) (by kernel_rfl) ?_
    simp only [push_cast, seval, reduceCtorEq]
    cases b with
    | nil =>
      simp only [push_cast, seval, reduceCtorEq, List.length_nil, bne_self_eq_false]
      refine unrollO (noG_ok _) (pl := Tryz.pl38) Tryz.mix 1 (by kernel_rfl) ?_
      simp only [push_cast, seval, reduceCtorEq, Int.lt_irrefl]
    | cons y r =>
      have e1 : ((0 : Int) != (r.length : Int) + 1) = true := by rw [bne_iff_ne]; omega
      have e2 : decide ([] = y :: r) = false := by simp
      simp only [push_cast, seval, reduceCtorEq, e1, e2]
  · rcases h2.open with ⟨rfl, p, c, rfl⟩ | ⟨bb, ob, cb, eb, rfl, heb, hrb⟩
    · refine callsO (noG_ok _) Tryz.mix Tryz.pl38 Tryz.func38 rfl Tryz.ntmps38 Tryz.results38 rfl (by first | rfl | assumption) (Nat.le_of_ble_eq_true rfl) (by kernel_rfl) ?_
      simp only [push_cast, seval, reduceCtorEq]
      cases a with
      | nil =>
        simp only [push_cast, seval, reduceCtorEq, List.length_nil, bne_self_eq_false]
        refine unrollO (noG_ok _) (pl := Tryz.pl38) Tryz.mix 1 (by kernel_rfl) ?_
        simp only [push_cast, seval, reduceCtorEq, Int.lt_irrefl]
      | cons y r =>
        have e1 : ((r.length : Int) + 1 != (0 : Int)) = true := by rw [bne_iff_ne]; omega
        have e2 : decide (y :: r = []) = false := by simp
        simp only [push_cast, seval, reduceCtorEq, e1, e2]
    · refine callsO (noG_ok _) Tryz.mix Tryz.pl38 Tryz.func38 rfl Tryz.ntmps38 Tryz.results38 rfl (by first | rfl | assumption) (Nat.le_of_ble_eq_true rfl) (by kernel_rfl) ?_
      simp only [push_cast, seval, reduceCtorEq]
      by_cases hl : a.length = b.length
      · have e1 : ((a.length : Int) != (b.length : Int)) = false := by rw [hl, bne_self_eq_false]
        simp only [push_cast, seval, reduceCtorEq, e1]
        refine loopO (noG_ok _) (pl := Tryz.pl38) Tryz.mix (X := Nat)
          (fun k => ([(0, .slice (some ⟨ba, oa, none⟩) a.length ca), (1, .slice (some ⟨bb, ob, none⟩) b.length cb), (5, .int .i64 k)], Hf))
          (fun k => k ≤ a.length ∧ a.take k = b.take k) (fun k => a.length - k) 0 ?_ ?_ (by kernel_rfl) ?_
        · exact ⟨Nat.zero_le _, rfl⟩
        · simp only [push_cast, seval, reduceCtorEq, hm]
        · rintro k ⟨hk, ho⟩
          dsimp only at hk ho ⊢
          rcases Nat.lt_or_ge k a.length with hlt | hge
          · have hlb : k < b.length := by omega
            obtain ⟨x, hx⟩ : ∃ x, a[k]? = some x := ⟨a[k], List.getElem?_eq_getElem hlt⟩
            obtain ⟨y, hy⟩ : ∃ x, b[k]? = some x := ⟨b[k], List.getElem?_eq_getElem hlb⟩
            have hxa := hra k x hx
            have hyb := hrb k y hy
            by_cases hxy : x = y
            · have e2 : decide (x = y) = true := by simpa using hxy
              simp only [push_cast, seval, reduceCtorEq, hlt, hlb, hea, heb, hxa, hyb, e2, wrap_i64' (show -9223372036854775808 ≤ (k : Int) + 1 ∧ (k : Int) + 1 ≤ 9223372036854775807 by omega)]
              exact ⟨k + 1, ⟨hlt, same_step ho hx hy hxy⟩, by omega, rfl⟩
            · have e2 : decide (x = y) = false := by simpa using hxy
              have e3 : decide (a = b) = false := by
                rw [decide_eq_false_iff_not]
                rintro rfl
                rw [hx] at hy; cases hy; exact hxy rfl
              simp only [push_cast, seval, reduceCtorEq, hlt, hlb, hea, heb, hxa, hyb, e2, e3]
          · have e2 : ¬ k < a.length := by omega
            have e3 : decide (a = b) = true := by
              rw [decide_eq_true_eq]
              rwa [List.take_of_length_le (by omega), List.take_of_length_le (by omega)] at ho
            simp only [push_cast, seval, reduceCtorEq, e2, e3]
      · have e1 : ((a.length : Int) != (b.length : Int)) = true := by rw [bne_iff_ne]; omega
        have e2 : decide (a = b) = false := by
          rw [decide_eq_false_iff_not]; rintro rfl; exact hl rfl
        simp only [push_cast, seval, reduceCtorEq, e1, e2]
end Go.Proofs.YtpcjmmdgopihcaaGreatDoor
