/- Texts of this claim, merged by program: Te Tf Tg Th EvS Ti Ra. -/
import Derived.Test.YtpcjmmdgopihcaaGreatDoorZgAf
import Derived.Test.YtpcjmmdgopihcaaGreatDoorZgAc
set_option linter.unusedSimpArgs false
set_option linter.unusedVariables false
set_option maxRecDepth 100000
set_option maxHeartbeats 4000000
namespace Go.Ev
theorem cellsAt_find {H : Hp} {b o n : Nat} {cs : List Value} (h : cellsAt H b o n = some cs) : ∃ e, findE H b = some e := by
 unfold cellsAt at h
 cases hf : findE H b with
 | none => rw [hf] at h; cases h
 | some e => exact ⟨e, rfl⟩
theorem SlR.cons {H : Hp} {l : List Sl} {v : Value} {e : Ent} (h : SlR H l v) (hf : fresh e.blk H) : SlR (e :: H) l v := by
 obtain ⟨p, c, rfl, h | ⟨b, o, rfl, h⟩⟩ := h
 · exact ⟨p, c, rfl, .inl h⟩
 · refine ⟨_, c, rfl, .inr ⟨b, o, rfl, ?_⟩⟩
   obtain ⟨e', he⟩ := cellsAt_find h
   have := (fresh_find hf he).2
   unfold cellsAt at h ⊢
   simp only [findE, if_neg this]
   exact h
theorem SlR.app {H : Hp} {l : List Sl} {v : Value} (h : SlR H l v) : ∀ {N : Hp}, freshN N H → (N.Pairwise fun e f => e.blk ≠ f.blk) → SlR (N ++ H) l v
 | [], _, _ => h
 | e :: r, hf, hp => by
   obtain ⟨h1, h2⟩ := List.pairwise_cons.1 hp
   have := h.app hf.2 h2
   obtain ⟨p, c, rfl, h | ⟨b, o, rfl, h⟩⟩ := h
   · exact ⟨p, c, rfl, .inl h⟩
   · obtain ⟨p', c', hv, h' | ⟨b', o', hv', h'⟩⟩ := this
     · exact ⟨_, c, rfl, .inl h'⟩
     · cases hv; cases hv'
       refine ⟨_, c, rfl, .inr ⟨b, o, rfl, ?_⟩⟩
       obtain ⟨e', he⟩ := cellsAt_find h
       have := (fresh_find hf.1 he).2
       unfold cellsAt at h' ⊢
       simp only [findE, List.cons_append, if_neg this]
       exact h'
theorem SlR.two {H : Hp} {l m : List Sl} {v u : Value} (h1 : SlR H l v) (h2 : SlR H m u) : ∃ Hf, derE H Hf ∧ derE Hf Hf ∧ marksOf Hf = [] ∧ SlR Hf l v ∧ SlR Hf m u := by
 have self : ∀ {b : Nat} {e : Ent} {R : Hp}, findE R b = some e → cellsAt R e.blk e.off e.cells.length = some e.cells := fun {b e R} hf => by
  have hb := (findE_mem hf).2
  unfold cellsAt
  rw [hb, hf]
  simp [subL]
 have ro : ∀ {b o n : Nat} {cs : List Value} {e : Ent} {R : Hp}, findE H b = some e → cellsAt H b o n = some cs → findE R b = some { e with kind := .ro } → cellsAt R b o n = some cs := fun {b o n cs e R} hf hc hr => by
  unfold cellsAt at hc ⊢
  rw [hf] at hc; rw [hr]; exact hc
 obtain ⟨p, c, rfl, h1⟩ := h1
 obtain ⟨p', c', rfl, h2⟩ := h2
 rcases h1 with rfl | ⟨b, o, rfl, h1⟩
 · rcases h2 with rfl | ⟨b', o', rfl, h2⟩
   · exact ⟨[], trivial, trivial, rfl, ⟨p, c, rfl, .inl rfl⟩, ⟨p', c', rfl, .inl rfl⟩⟩
   · obtain ⟨e', he'⟩ := cellsAt_find h2
     have hb' := (findE_mem he').2
     have hs : findE [{ e' with kind := .ro }] b' = some { e' with kind := .ro } := by simp [findE, hb']
     exact ⟨[{ e' with kind := .ro }], ⟨⟨rfl, self (e := e') he'⟩, trivial⟩, ⟨⟨rfl, self (e := { e' with kind := .ro }) hs⟩, trivial⟩, rfl, ⟨p, c, rfl, .inl rfl⟩, ⟨_, c', rfl, .inr ⟨b', o', rfl, ro he' h2 hs⟩⟩⟩
 · obtain ⟨e, he⟩ := cellsAt_find h1
   have hb := (findE_mem he).2
   rcases h2 with rfl | ⟨b', o', rfl, h2⟩
   · have hs : findE [{ e with kind := .ro }] b = some { e with kind := .ro } := by simp [findE, hb]
     exact ⟨[{ e with kind := .ro }], ⟨⟨rfl, self (e := e) he⟩, trivial⟩, ⟨⟨rfl, self (e := { e with kind := .ro }) hs⟩, trivial⟩, rfl, ⟨_, c, rfl, .inr ⟨b, o, rfl, ro he h1 hs⟩⟩, ⟨p', c', rfl, .inl rfl⟩⟩
   · obtain ⟨e', he'⟩ := cellsAt_find h2
     have hb' := (findE_mem he').2
     by_cases hbb : b' = b
     · subst hbb
       have hs : findE [{ e with kind := .ro }] b' = some { e with kind := .ro } := by simp [findE, hb]
       exact ⟨[{ e with kind := .ro }], ⟨⟨rfl, self (e := e) he⟩, trivial⟩, ⟨⟨rfl, self (e := { e with kind := .ro }) hs⟩, trivial⟩, rfl, ⟨_, c, rfl, .inr ⟨b', o, rfl, ro he h1 hs⟩⟩, ⟨_, c', rfl, .inr ⟨b', o', rfl, ro he h2 hs⟩⟩⟩
     · have hs : findE [{ e with kind := .ro }, { e' with kind := .ro }] b = some { e with kind := .ro } := by simp [findE, hb]
       have hs' : findE [{ e with kind := .ro }, { e' with kind := .ro }] b' = some { e' with kind := .ro } := by simp [findE, hb, hb', hbb]
       exact ⟨[{ e with kind := .ro }, { e' with kind := .ro }], ⟨⟨rfl, self (e := e) he⟩, ⟨rfl, self (e := e') he'⟩, trivial⟩, ⟨⟨rfl, self (e := { e with kind := .ro }) hs⟩, ⟨rfl, self (e := { e' with kind := .ro }) hs'⟩, trivial⟩, rfl, ⟨_, c, rfl, .inr ⟨b, o, rfl, ro he h1 hs⟩⟩, ⟨_, c', rfl, .inr ⟨b', o', rfl, ro he' h2 hs'⟩⟩⟩
theorem OutS.pair {e : Nat} {l : List Sl} {v : Value} {N : Hp} (h : OutS e l v N) : N.Pairwise fun e f => e.blk ≠ f.blk := by
 obtain ⟨rfl, rfl, rfl⟩ | ⟨b, c, h0, rfl, hc, rfl⟩ := h
 · exact List.Pairwise.nil
 · simp
theorem findE_skip {b : Nat} {L : Hp} : ∀ {A : Hp}, (∀ x ∈ A, ¬ x.blk = b) → findE (A ++ L) b = findE L b
 | [], _ => rfl
 | x :: r, h => by
   have := h x (by simp)
   simp only [findE, List.cons_append, if_neg (Ne.symm this)]
   exact findE_skip fun y hy => h y (by simp [hy])
theorem OutS.suf {e : Nat} {l : List Sl} {v : Value} {N A B : Hp} (h : OutS e l v N) (hA : ∀ x ∈ A, ∀ y ∈ N, ¬ x.blk = y.blk) : ∃ b, SufS (A ++ (N ++ B)) l b 0 v := by
 obtain ⟨rfl, rfl, rfl⟩ | ⟨b, c, h0, rfl, hc, rfl⟩ := h
 · exact ⟨0, .inl ⟨rfl, none, 0, rfl⟩⟩
 · refine ⟨b, .inr ⟨?_, c, hc, ?_, .vec e 8 c, ?_⟩⟩
   · rcases l with _ | ⟨x, r⟩
     · exact absurd rfl h0
     · simp
   · simp
   · rw [findE_skip (b := b) fun x hx => hA x hx ⟨b, 0, .vec e 8 c, slC l⟩ (by simp)]
     simp [findE]
theorem joinS_len : ∀ (a b : List Sl), (joinS a b).length ≤ a.length + b.length
 | [], [] => by simp [joinS]
 | x :: r, [] => by have := joinS_len r []; simp only [joinS, List.length_cons, List.length_nil] at *; omega
 | [], y :: s => by have := joinS_len [] s; simp only [joinS, List.length_cons, List.length_nil] at *; omega
 | x :: r, y :: s => by
   rw [joinS]
   split
   · have := joinS_len r (y :: s); simp only [List.length_cons] at *; omega
   · split
     · have := joinS_len (x :: r) s; simp only [List.length_cons] at *; omega
     · have := joinS_len r s; simp only [List.length_cons] at *; omega
termination_by a b => a.length + b.length
theorem freshN_ne {H : Hp} : ∀ {N : Hp}, freshN N H → ∀ e ∈ N, ∀ x ∈ H, ¬ x.blk = e.blk
 | [], _, e, he => by cases he
 | y :: r, h, e, he => by
   rcases List.mem_cons.1 he with rfl | he
   · exact findE_fresh h.1
   · exact freshN_ne h.2 e he
def OutE (e : Nat) (r : List Sl × Int) : Value → Hp → Prop := fun v N => ∃ w, v = .tuple #[w, .int .i64 r.2] ∧ OutS e r.1 w N
def pickM (x : Bo) : Option Sl := if (if x.inB then x.b else x.a) = W.zero then none else some ⟨x.key, if x.inB then x.b else x.a⟩
def pickD (x : Bo) : Option Sl := if x.a = x.b then none else some ⟨x.key, x.b⟩
def mergeL (l m : List Sl) : List Sl := (joinS l m).filterMap pickM
def diffL (l m : List Sl) : List Sl := (joinS l m).filterMap pickD
def limR (l : List Sl) : List Sl × Int := if 1000 < l.length then ([], 2) else (l, 0)
noncomputable def mergeR (l m : List Sl) : List Sl × Int := if rightB l && patchB m then limR (mergeL l m) else ([], 1)
theorem rightB_len {l : List Sl} (h : rightB l = true) : l.length ≤ 1000 := by unfold rightB patchB at h; simp at h; exact h.1.1
theorem patchB_len {l : List Sl} (h : patchB l = true) : l.length ≤ 1000 := by unfold patchB at h; simp at h; exact h.1
theorem Bo.len (x : Bo) : x.cells.length = 13 := rfl
theorem Bo.take13 (x : Bo) : List.take 13 x.cells = x.cells := rfl
theorem Bo.drop13 (x : Bo) : List.drop 13 x.cells = [] := rfl
theorem Bo.all1 (x : Bo) : x.cells.all oneC = true := rfl
theorem Bo.key0 (x : Bo) : List.take 4 x.cells = x.key.cells := rfl
theorem Bo.a4 (x : Bo) : List.take 4 (List.drop 4 x.cells) = x.a.cells := rfl
theorem Bo.b8 (x : Bo) : List.take 4 (List.drop 8 x.cells) = x.b.cells := rfl
theorem Bo.i12 (x : Bo) : List.take 1 (List.drop 12 x.cells) = [.bool x.inB] := rfl
theorem Bo.agg (x : Bo) : Value.agg x.cells.toArray = x.v := rfl
theorem Bo.v_cells (x : Bo) : x.v.cells = x.cells.toArray := rfl
attribute [push_cast] Bo.len Bo.take13 Bo.drop13 Bo.all1 Bo.key0 Bo.a4 Bo.b8 Bo.i12 Bo.agg Bo.v_cells
end Go.Ev
namespace Go.Proofs.YtpcjmmdgopihcaaGreatDoor
open Go Go.Ev Go.Proofs
theorem with_ok (s t : Value × Value) : CallsV Tryz.prog 119 [.agg #[s.1, s.2], .agg #[t.1, t.2]] []
  (fun v N => ∃ b2 b3, ¬ b2 = b3 ∧ v = .func (.func 142) #[] #[.pointer (some ⟨b2, 0, none⟩), .pointer (some ⟨b3, 0, none⟩)] ∧ N = [⟨b3, 0, .cel 140, [t.1, t.2]⟩, ⟨b2, 0, .cel 140, [s.1, s.2]⟩]) := by
 refine callsO gB_ok Tryz.mix Tryz.pl119 Tryz.func119 rfl Tryz.ntmps119 Tryz.results119 rfl (by first | rfl | assumption) (Nat.le_of_ble_eq_true rfl) (by kernel_rfl) ?_
 simp only [push_cast, seval, reduceCtorEq]
 intro b2 b3 hb3
 exact ⟨_, List.Sublist.refl _, b2, b3, hb3.2, rfl, rfl⟩
theorem merge_ok {Hf : Hp} {l m : List Sl} {v u : Value} (hd : derE Hf Hf) (hm : marksOf Hf = []) (hl : SlR Hf l v) (hu : SlR Hf m u) : CallsV Tryz.prog 98 [v, u] Hf (OutE 67 (mergeR l m)) := by
 refine callsO gB_ok Tryz.mix Tryz.pl98 Tryz.func98 rfl Tryz.ntmps98 Tryz.results98 rfl (by first | rfl | assumption) (Nat.le_of_ble_eq_true rfl) (by kernel_rfl) ?_
 simp only [push_cast, seval, reduceCtorEq]
 obtain ⟨Hl, hl1, hl2⟩ := hl.h
 obtain ⟨Hu, hu1, hu2⟩ := hu.h
 refine (right_ok hl1).pure hl2 ?_
 simp only [push_cast, seval, reduceCtorEq]
 cases hr : rightB l with
 | false =>
   simp only [push_cast, seval, reduceCtorEq]
   exact ⟨[], List.nil_sublist _, _, by simp [mergeR, hr], .inl ⟨by simp [mergeR, hr], rfl, rfl⟩⟩
 | true =>
 simp only [push_cast, seval, reduceCtorEq]
 refine (patch_ok hu1).pure hu2 ?_
 simp only [push_cast, seval, reduceCtorEq]
 cases hp : patchB m with
 | false =>
   simp only [push_cast, seval, reduceCtorEq]
   exact ⟨[], List.nil_sublist _, _, by simp [mergeR, hr, hp], .inl ⟨by simp [mergeR, hr, hp], rfl, rfl⟩⟩
 | true =>
 simp only [push_cast, seval, reduceCtorEq]
 have ln1 := rightB_len hr
 have ln2 := patchB_len hp
 intro b6 hb6
 obtain ⟨Hl3, hl3, hl4⟩ := (hl.cons (e := ⟨b6, 0, .cel 29, [.slice none 0 0]⟩) hb6).h
 refine (of_ok hl3 (by omega)).use hl4 ?_
 rintro _ N1 ⟨w1, rfl, ho1⟩
 refine ⟨ho1.wr.1, ho1.wr.2, fun hf1 => ?_⟩
 try simp only [push_cast, seval, reduceCtorEq]
 obtain ⟨Hu3, hu3, hu4⟩ := ((hu.cons (e := ⟨b6, 0, .cel 29, [.slice none 0 0]⟩) hb6).app hf1 ho1.pair).h
 refine (of_ok hu3 (by omega)).use hu4 ?_
 rintro _ N2 ⟨w2, rfl, ho2⟩
 refine ⟨ho2.wr.1, ho2.wr.2, fun hf2 => ?_⟩
 try simp only [push_cast, seval, reduceCtorEq]
 refine (with_ok (w1, _) (w2, _)).use trivial ?_
 rintro _ _ ⟨b2, b3, hb23, rfl, rfl⟩
 refine ⟨⟨trivial, trivial, trivial⟩, rfl, fun hf3 => ?_⟩
 try simp only [push_cast, seval, reduceCtorEq]
 have hf23 := freshN_ne hf3
 have hf21 := freshN_ne hf2
 obtain ⟨bb, hsb⟩ := ho2.suf (A := [⟨b3, 0, .cel 140, [w2, .func (.func 141) #[] #[]]⟩, ⟨b2, 0, .cel 140, [w1, .func (.func 141) #[] #[]]⟩]) (B := N1)
  (fun x hx y hy h => hf23 x hx y (by simp [hy]) h.symm)
 obtain ⟨ba, hsa⟩ := ho1.suf (A := ⟨b3, 0, .cel 140, [w2, .func (.func 141) #[] #[]]⟩ :: ⟨b2, 0, .cel 140, [w1, .func (.func 141) #[] #[]]⟩ :: N2) (B := []) (fun x hx y hy h => by
  rcases List.mem_append.1 (show x ∈ [_, _] ++ N2 from hx) with hx | hx
  · exact hf23 x hx y (by simp [hy]) h.symm
  · exact hf21 x hx y (by simp [hy]) h.symm)
 rw [List.append_nil] at hsa
 refine rangeO gB_ok (pl := Tryz.pl98) Tryz.mix (Hc := ⟨b3, 0, .cel 140, [w2, .func (.func 141) #[] #[]]⟩ :: ⟨b2, 0, .cel 140, [w1, .func (.func 141) #[] #[]]⟩ :: (N2 ++ N1)) (Hm := [])
  (with1_ok (a := l) (b := m) (b2 := b2) (b3 := b3) (by omega) (by simp [marksOf, marks_append, ho1.wr.2, ho2.wr.2]) (by simp [findE, hb23]) (by simp [findE]) hsa hsb) rfl
  (X := {x : List Sl × Value × Hp // allWr x.2.2 ∧ marksOf x.2.2 = []}) (fun x => ⟨b6, 0, .cel 29, [x.1.2.1]⟩ :: x.1.2.2)
  (fun k x => x.1.1 = ((joinS l m).take k).filterMap pickM ∧ OutS 67 x.1.1 x.1.2.1 x.1.2.2 ∧ freshN x.1.2.2 [⟨b6, 0, .ro, []⟩]) (fun _ _ => False) ⟨([], .slice none 0 0, []), trivial, rfl⟩
  ⟨rfl, .inl ⟨rfl, rfl, rfl⟩, trivial⟩ ?_ ?_ ?_ (by simp) (fun x => by simp [marksOf, x.2.2]) (fun x y e he => .inl ?_) ?_ (by kernel_rfl) (by kernel_rfl) (fun _ _ h => h.elim) ?_ ?_ (fun _ _ _ _ h => h.elim)
 · have h := subH_app Hf (⟨b3, 0, .cel 140, [w2, .func (.func 141) #[] #[]]⟩ :: ⟨b2, 0, .cel 140, [w1, .func (.func 141) #[] #[]]⟩ :: (N2 ++ (N1 ++ [⟨b6, 0, .cel 29, [.slice none 0 0]⟩])))
   simpa only [List.cons_append, List.append_assoc, List.nil_append, List.append_nil] using h
 · simp [marksOf, marks_append, ho1.wr.2, ho2.wr.2, hm]
 · simp [marksOf, marks_append, ho1.wr.2, ho2.wr.2]
 · rcases List.mem_cons.1 he with rfl | he
   · exact trivial
   · exact allWr_mem y.2.1 e he
 · intro args ha
   obtain ⟨y, _, rfl⟩ := List.mem_map.1 ha
   rfl
 · rintro lo k ⟨⟨L, w, N⟩, hx1, hx2⟩ args hk ⟨hL, hO, hF⟩
   dsimp only at hx1 hx2 hL hO hF ⊢
   rw [List.getElem?_map] at hk
   obtain ⟨y, hy, rfl⟩ := Option.map_eq_some_iff.1 hk
   have hstep : ((joinS l m).take (k + 1)).filterMap pickM = L ++ (pickM y).toList := by
    rw [List.take_add_one, hy, List.filterMap_append, ← hL]
    cases h : pickM y <;> simp [h]
   have hlen : L.length ≤ 2000 := by
    have h1 := joinS_len l m
    have h2 : L.length ≤ (joinS l m).length := by rw [hL]; exact Nat.le_trans (List.length_filterMap_le ..) (by simp; omega)
    omega
   simp only [push_cast, seval, reduceCtorEq]
   intro b7 hb7
   simp only [push_cast, seval, reduceCtorEq, hb7]
   refine ⟨hx2, roSub_of fun e he => .inl (allWr_mem hx1 e he), fun b8 hb8 => ?_⟩
   obtain ⟨z, hz⟩ : ∃ z, z = (if y.inB then y.b else y.a) := ⟨_, rfl⟩
   have hpk : pickM y = if z = W.zero then none else some ⟨y.key, z⟩ := by rw [hz]; rfl
   by_cases hz0 : z = W.zero
   · have hd0 : decide (z = W.zero) = true := by simpa using hz0
     rw [hpk, if_pos hz0] at hstep
     refine (show _ from ?_)
     cases hi : y.inB
     all_goals
      simp only [hi, Bool.false_eq_true, if_false, if_true] at hz
      subst hz
      simp only [push_cast, seval, reduceCtorEq, hb7, hb8, hi, hd0, Nat.zero_le]
      refine ⟨⟨(L, w, N), hx1, hx2⟩, ⟨by rw [hstep]; simp, hO, hF⟩, ?_⟩
      simp only [push_cast, seval, reduceCtorEq, hb7, hb8]
   · have hd0 : decide (z = W.zero) = false := by simpa using hz0
     rw [hpk, if_neg hz0] at hstep
     rcases hO with ⟨h0, rfl, rfl⟩ | ⟨bo, co, h0, rfl, hco, rfl⟩
     · cases hi : y.inB
       all_goals
        simp only [hi, Bool.false_eq_true, if_false, if_true] at hz
        subst hz
        simp only [push_cast, seval, reduceCtorEq, hb7, hb8, hi, hd0, Nat.zero_le]
        intro b9 hb9
        simp only [push_cast, seval, reduceCtorEq, hb7, hb8, hb9, Sl.pair]
        refine ⟨by unfold two47; omega, fun b10 c10 hb10 hc10 => ?_⟩
        simp only [push_cast, seval, reduceCtorEq, hb7, hb8, hb9, hb10, roundK]
        subst h0
        refine ⟨⟨([⟨y.key, _⟩], .slice (some ⟨b10, 0, none⟩) 1 c10, [⟨b10, 0, .vec 67 8 c10, slC [⟨y.key, _⟩]⟩]), ⟨trivial, trivial⟩, rfl⟩, ⟨hstep.symm, .inr ⟨b10, c10, by simp, rfl, hc10, rfl⟩, ?_⟩, ?_⟩
        · simp only [push_cast, seval, reduceCtorEq, hb10]
        · simp only [push_cast, seval, reduceCtorEq, hb10, hb9, hb8, hb7]
     · simp only [push_cast, seval, reduceCtorEq] at hF hb7 hb8
       cases hi : y.inB
       all_goals
        simp only [hi, Bool.false_eq_true, if_false, if_true] at hz
        subst hz
        simp only [push_cast, seval, reduceCtorEq, hb7, hb8, hi, hd0, hF, Nat.zero_le]
        intro b9 hb9
        simp only [push_cast, seval, reduceCtorEq, hb7, hb8, hb9, hF, Sl.pair, slC_len]
        refine ⟨by unfold two47; omega, fun b10 c10 hb10 hc10 => ?_⟩
        simp only [push_cast, seval, reduceCtorEq, hb7, hb8, hb9, hb10, hF, roundK]
        refine ⟨⟨(L ++ [⟨y.key, _⟩], .slice (some ⟨b10, 0, none⟩) (L.length + 1) c10, [⟨b10, 0, .vec 67 8 c10, slC (L ++ [⟨y.key, _⟩])⟩]), ⟨trivial, trivial⟩, rfl⟩, ⟨hstep.symm, .inr ⟨b10, c10, by simp, by simp, by simpa using hc10, rfl⟩, ?_⟩, ?_⟩
        · simp only [push_cast, seval, reduceCtorEq, hb10]
        · simp only [push_cast, seval, reduceCtorEq, slC_app, hb10, hb9, hb8, hb7]
 · rintro D ⟨⟨L, w, N⟩, hx1, hx2⟩ hfD ⟨hL, hO, hF⟩
   dsimp only at hx1 hx2 hL hO hF hfD ⊢
   have hL' : L = mergeL l m := by rw [hL, List.length_map, List.take_length]; rfl
   subst hL'
   rcases hO with ⟨h0, rfl, rfl⟩ | ⟨bo, co, h0, rfl, hco, rfl⟩
   · simp only [push_cast, seval, reduceCtorEq] at hfD
     simp only [push_cast, seval, reduceCtorEq, hfD]
     refine (limited_ok _ _ _).pure trivial ?_
     simp only [push_cast, seval, reduceCtorEq, Nat.not_lt_zero, List.getElem?_toArray]
     exact ⟨[], List.nil_sublist _, _, by simp [mergeR, hr, hp, limR, h0], .inl ⟨by simp [mergeR, hr, hp, limR, h0], rfl, rfl⟩⟩
   · simp only [push_cast, seval, reduceCtorEq] at hfD
     simp only [push_cast, seval, reduceCtorEq, hfD]
     refine (limited_ok _ _ _).pure trivial ?_
     rcases Nat.lt_or_ge 1000 (mergeL l m).length with h | h
     · simp only [push_cast, seval, reduceCtorEq, h]
       exact ⟨[], List.nil_sublist _, _, by simp [mergeR, hr, hp, limR, h], .inl ⟨by simp [mergeR, hr, hp, limR, h], rfl, rfl⟩⟩
     · have h' : ¬ 1000 < (mergeL l m).length := by omega
       simp only [push_cast, seval, reduceCtorEq, h']
       have h'' : mergeR l m = (mergeL l m, 0) := by simp [mergeR, hr, hp, limR, h']
       exact ⟨_, (List.Sublist.refl _).cons _, _, by rw [h''], by rw [h'']; exact .inr ⟨bo, co, h0, rfl, hco, rfl⟩⟩
theorem put_ok {Hf : Hp} {l : List Sl} {v : Value} {k w : W} (hd : derE Hf Hf) (hm : marksOf Hf = []) (hl : SlR Hf l v) : CallsV Tryz.prog 69 [v, k.v, w.v] Hf (OutE 67 (mergeR l [⟨k, w⟩])) := by
 refine callsO gB_ok Tryz.mix Tryz.pl69 Tryz.func69 rfl Tryz.ntmps69 Tryz.results69 rfl (by first | rfl | assumption) (Nat.le_of_ble_eq_true rfl) (by kernel_rfl) ?_
 simp only [push_cast, seval, reduceCtorEq]
 intro b4 hb4 b5 hb5
 simp only [push_cast, seval, reduceCtorEq, hb4, hb5, Sl.pair]
 intro b6 hb6
 have h1 := ((hl.cons (e := ⟨b4, 0, .cel 28, k.cells⟩) hb4).cons (e := ⟨b5, 0, .cel 28, w.cells⟩) ⟨hb5.1, hb5.2.1, hb5.2.2⟩)
 have h2 : SlR (⟨b6, 0, .vec 67 8 1, (Sl.mk k w).cells⟩ :: ⟨b5, 0, .cel 28, w.cells⟩ :: ⟨b4, 0, .cel 28, k.cells⟩ :: Hf) [⟨k, w⟩] (.slice (some ⟨b6, 0, none⟩) 1 1) :=
  ⟨_, 1, rfl, .inr ⟨b6, 0, rfl, by simp only [push_cast, seval, reduceCtorEq, List.length_singleton]⟩⟩
 have h3 := h1.cons (e := ⟨b6, 0, .vec 67 8 1, (Sl.mk k w).cells⟩) (by simp only [push_cast, seval, reduceCtorEq, hb6])
 obtain ⟨H2, q1, q2, q3, q4, q5⟩ := h3.two h2
 refine (merge_ok q2 q3 q4 q5).use q1 ?_
 rintro _ N ⟨w', rfl, ho⟩
 refine ⟨ho.wr.1, ho.wr.2, fun hf => ?_⟩
 simp only [push_cast, seval, reduceCtorEq]
 refine ⟨N, ?_, w', rfl, ho⟩
 rw [dropM_eq]
 · exact List.sublist_append_left _ _
 · rw [marks_append, ho.wr.2]; simp [marksOf, hm]
end Go.Proofs.YtpcjmmdgopihcaaGreatDoor
namespace Go.Ev
def pickN (c n : Int) : Nat := ((if c < 0 then -(c + 1) else c) % n).toNat
theorem pickN_lt (c : Int) {n : Int} (h : 0 < n) : (pickN c n : Int) < n := by
 unfold pickN
 have := Int.emod_nonneg (if c < 0 then -(c + 1) else c) (by omega : n ≠ 0)
 have := Int.emod_lt_of_pos (if c < 0 then -(c + 1) else c) h
 omega
def i64In (c : Int) : Prop := -9223372036854775808 ≤ c ∧ c ≤ 9223372036854775807
instance (c : Int) : Decidable (i64In c) := inferInstanceAs (Decidable (_ ∧ _))
def pickG : List Value → Option Value
 | [.int .i64 c, .int .i64 n] => if i64In c ∧ 0 < n ∧ i64In n then some (.int .i64 (pickN c n)) else none
 | _ => none
attribute [push_cast] pickG
def W.lo (n : Nat) : W := ⟨n % 18446744073709551616, 0, 0, 0, Nat.mod_lt _ (by decide), by decide, by decide, by decide⟩
theorem W.take3A (x : W) (l : List Value) : List.take 3 (x.cells ++ l) = [.int .u64 x.a, .int .u64 x.b, .int .u64 x.c] := rfl
theorem W.all2 (x y : W) : (x.cells ++ y.cells).all oneC = true := rfl
attribute [push_cast] W.all2 W.take3A
end Go.Ev
namespace Go.Proofs.YtpcjmmdgopihcaaGreatDoor
open Go Go.Ev Go.Proofs
end Go.Proofs.YtpcjmmdgopihcaaGreatDoor
namespace Go.Ev
theorem SlR.open {H : Hp} {l : List Sl} {v : Value} (h : SlR H l v) : (l = [] ∧ ∃ p c, v = .slice p 0 c) ∨ ∃ b o c e, v = .slice (some ⟨b, o, none⟩) l.length c ∧ findE H b = some e ∧ ∀ (i : Nat) (x : Sl), l[i]? = some x →
  e.off ≤ o + i * 8 ∧ e.off ≤ o + i * 8 + 4 ∧ o + i * 8 - e.off + 8 ≤ e.cells.length ∧ o + i * 8 - e.off + 4 ≤ e.cells.length ∧ o + i * 8 + 4 - e.off + 4 ≤ e.cells.length ∧
  List.take 8 (List.drop (o + i * 8 - e.off) e.cells) = x.cells ∧ List.take 4 (List.drop (o + i * 8 - e.off) e.cells) = x.key.cells ∧ List.take 4 (List.drop (o + i * 8 + 4 - e.off) e.cells) = x.val.cells := by
 obtain ⟨p, c, rfl, rfl | ⟨b, o, rfl, h⟩⟩ := h
 · exact .inl ⟨rfl, p, c, rfl⟩
 · obtain ⟨e, he⟩ := cellsAt_find h
   refine .inr ⟨b, o, c, e, rfl, he, fun i x hx => ?_⟩
   unfold cellsAt at h
   rw [he] at h
   dsimp only at h
   split at h
   case isFalse => cases h
   rename_i hoff
   unfold subL at h
   split at h
   case isFalse => cases h
   rename_i hle
   have hcs := Option.some.inj h
   have hi := (List.getElem?_eq_some_iff.1 hx).1
   obtain ⟨a1, a2, a3, a4, a5, a6⟩ := slC_at hx
   have hd : ∀ j n, j + n ≤ l.length * 8 → List.take n (List.drop (o - e.off + j) e.cells) = List.take n (List.drop j (slC l)) := fun j n hj => by
    rw [← hcs, List.drop_take, List.take_take, List.drop_drop, Nat.min_eq_left (by omega)]
   have e1 : o + i * 8 - e.off = o - e.off + i * 8 := by omega
   have e2 : o + i * 8 + 4 - e.off = o - e.off + (i * 8 + 4) := by omega
   rw [e1, e2, hd _ _ (by omega), hd _ _ (by omega), hd _ _ (by omega), a4, a5, a6]
   exact ⟨by omega, by omega, by omega, by omega, by omega, rfl, rfl, rfl⟩
theorem same_step {a b : List Sl} {k : Nat} {x y : Sl} (h : a.take k = b.take k) (hx : a[k]? = some x) (hy : b[k]? = some y) (hxy : x = y) : a.take (k + 1) = b.take (k + 1) := by
 rw [List.take_add_one, List.take_add_one, h, hx, hy, hxy]
end Go.Ev
namespace Go.Proofs.YtpcjmmdgopihcaaGreatDoor
open Go Go.Ev Go.Proofs
theorem same_ok {Hf : Hp} {a b : List Sl} {v u : Value} (hm : marksOf Hf = []) (h1 : SlR Hf a v) (h2 : SlR Hf b u) (hn : a.length ≤ 2199023255551) (hn2 : b.length ≤ 2199023255551) : CallsV Tryz.prog 38 [v, u] Hf (Ret0 (.bool (decide (a = b)))) := by
 rcases h1.open with ⟨rfl, p, c, rfl⟩ | ⟨ba, oa, ca, ea, rfl, hea, hra⟩
 · obtain ⟨p', c', rfl, _⟩ := h2
   refine callsO (noG_ok _) Tryz.mix Tryz.pl38 Tryz.func38 rfl Tryz.ntmps38 Tryz.results38 rfl (by first | rfl | assumption) (Nat.le_of_ble_eq_true rfl) (by kernel_rfl) ?_
   simp only [push_cast, seval, reduceCtorEq]
   cases b with
   | nil =>
     simp only [push_cast, seval, reduceCtorEq, List.length_nil, bne_self_eq_false]
     refine unrollO (noG_ok _) (pl := Tryz.pl38) Tryz.mix 1 (by kernel_rfl) ?_
     simp only [push_cast, seval, reduceCtorEq, Int.lt_irrefl]
   | cons y r =>
     have e1 : ((0 : Int) != (r.length : Int) + 1) = true := by rw [bne_iff_ne]; omega
     have e2 : decide ([] = y :: r) = false := by simp
     simp only [push_cast, seval, reduceCtorEq, e1, e2]
 · rcases h2.open with ⟨rfl, p, c, rfl⟩ | ⟨bb, ob, cb, eb, rfl, heb, hrb⟩
   · refine callsO (noG_ok _) Tryz.mix Tryz.pl38 Tryz.func38 rfl Tryz.ntmps38 Tryz.results38 rfl (by first | rfl | assumption) (Nat.le_of_ble_eq_true rfl) (by kernel_rfl) ?_
     simp only [push_cast, seval, reduceCtorEq]
     cases a with
     | nil =>
       simp only [push_cast, seval, reduceCtorEq, List.length_nil, bne_self_eq_false]
       refine unrollO (noG_ok _) (pl := Tryz.pl38) Tryz.mix 1 (by kernel_rfl) ?_
       simp only [push_cast, seval, reduceCtorEq, Int.lt_irrefl]
     | cons y r =>
       have e1 : ((r.length : Int) + 1 != (0 : Int)) = true := by rw [bne_iff_ne]; omega
       have e2 : decide (y :: r = []) = false := by simp
       simp only [push_cast, seval, reduceCtorEq, e1, e2]
   · refine callsO (noG_ok _) Tryz.mix Tryz.pl38 Tryz.func38 rfl Tryz.ntmps38 Tryz.results38 rfl (by first | rfl | assumption) (Nat.le_of_ble_eq_true rfl) (by kernel_rfl) ?_
     simp only [push_cast, seval, reduceCtorEq]
     by_cases hl : a.length = b.length
     · have e1 : ((a.length : Int) != (b.length : Int)) = false := by rw [hl, bne_self_eq_false]
       simp only [push_cast, seval, reduceCtorEq, e1]
       refine loopO (noG_ok _) (pl := Tryz.pl38) Tryz.mix (X := Nat)
        (fun k => ([(0, .slice (some ⟨ba, oa, none⟩) a.length ca), (1, .slice (some ⟨bb, ob, none⟩) b.length cb), (5, .int .i64 k)], Hf))
        (fun k => k ≤ a.length ∧ a.take k = b.take k) (fun k => a.length - k) 0 ?_ ?_ (by kernel_rfl) ?_
       · exact ⟨Nat.zero_le _, rfl⟩
       · simp only [push_cast, seval, reduceCtorEq, hm]
       · rintro k ⟨hk, ho⟩
         dsimp only at hk ho ⊢
         rcases Nat.lt_or_ge k a.length with hlt | hge
         · have hlb : k < b.length := by omega
           obtain ⟨x, hx⟩ : ∃ x, a[k]? = some x := ⟨a[k], List.getElem?_eq_getElem hlt⟩
           obtain ⟨y, hy⟩ : ∃ x, b[k]? = some x := ⟨b[k], List.getElem?_eq_getElem hlb⟩
           have hxa := hra k x hx
           have hyb := hrb k y hy
           by_cases hxy : x = y
           · have e2 : decide (x = y) = true := by simpa using hxy
             simp only [push_cast, seval, reduceCtorEq, hlt, hlb, hea, heb, hxa, hyb, e2, wrap_i64' (show -9223372036854775808 ≤ (k : Int) + 1 ∧ (k : Int) + 1 ≤ 9223372036854775807 by omega)]
             exact ⟨k + 1, ⟨hlt, same_step ho hx hy hxy⟩, by omega, rfl⟩
           · have e2 : decide (x = y) = false := by simpa using hxy
             have e3 : decide (a = b) = false := by
              rw [decide_eq_false_iff_not]
              rintro rfl
              rw [hx] at hy; cases hy; exact hxy rfl
             simp only [push_cast, seval, reduceCtorEq, hlt, hlb, hea, heb, hxa, hyb, e2, e3]
         · have e2 : ¬ k < a.length := by omega
           have e3 : decide (a = b) = true := by
            rw [decide_eq_true_eq]
            rwa [List.take_of_length_le (by omega), List.take_of_length_le (by omega)] at ho
           simp only [push_cast, seval, reduceCtorEq, e2, e3]
     · have e1 : ((a.length : Int) != (b.length : Int)) = true := by rw [bne_iff_ne]; omega
       have e2 : decide (a = b) = false := by
        rw [decide_eq_false_iff_not]; rintro rfl; exact hl rfl
       simp only [push_cast, seval, reduceCtorEq, e1, e2]
end Go.Proofs.YtpcjmmdgopihcaaGreatDoor
namespace Go.Ev
def Srt (l : List Sl) : Prop := l.Pairwise fun x y => x.key.num < y.key.num
theorem rises_srt : ∀ {l : List Sl}, Rises l → Srt l
 | [], _ => List.Pairwise.nil
 | [x], _ => List.pairwise_singleton _ _
 | x :: y :: r, h => by
   have ih : Srt (y :: r) := rises_srt fun i a b ha hb => h (i + 1) a b (by simpa using ha) (by simpa using hb)
   have h0 := h 0 x y rfl rfl
   refine List.pairwise_cons.2 ⟨fun z hz => ?_, ih⟩
   rcases List.mem_cons.1 hz with rfl | hz
   · exact h0
   · exact Nat.lt_trans h0 ((List.pairwise_cons.1 ih).1 z hz)
theorem srt_rises {l : List Sl} (h : Srt l) : Rises l := fun i x y hx hy => by
 obtain ⟨h1, h2⟩ := List.getElem?_eq_some_iff.1 hx
 obtain ⟨h3, h4⟩ := List.getElem?_eq_some_iff.1 hy
 have := List.pairwise_iff_getElem.1 h i (i + 1) h1 h3 (by omega)
 rw [h2, h4] at this
 exact this
theorem risesB_iff {l : List Sl} : risesB l = true ↔ Srt l := by
 constructor
 · intro h
   by_cases hr : Rises l
   · exact rises_srt hr
   · rw [risesB_false hr] at h; cases h
 · intro h; exact risesB_true (srt_rises h)
def lk (l : List Sl) (k : W) : Option W := (l.find? fun x => decide (x.key = k)).map (·.val)
theorem getW_lk (l : List Sl) (k : W) : getW l k = (lk l k).getD W.zero := rfl
theorem lk_nil (k : W) : lk [] k = none := rfl
theorem lk_cons (x : Sl) (l : List Sl) (k : W) : lk (x :: l) k = if x.key = k then some x.val else lk l k := by
 unfold lk
 rw [List.find?_cons]
 by_cases h : x.key = k
 · simp [h]
 · simp [h]
theorem lk_none {l : List Sl} {k : W} (h : ∀ x ∈ l, ¬ x.key = k) : lk l k = none := by
 induction l with
 | nil => rfl
 | cons x r ih => rw [lk_cons, if_neg (h x (by simp)), ih fun y hy => h y (by simp [hy])]
theorem lk_lt {l : List Sl} {k : W} (h : ∀ x ∈ l, k.num < x.key.num) : lk l k = none := lk_none fun x hx e => by
 have := h x hx; rw [e] at this; omega
theorem srt_ext : ∀ {l m : List Sl}, Srt l → Srt m → (∀ k, lk l k = lk m k) → l = m
 | [], [], _, _, _ => rfl
 | [], y :: s, _, _, h => by have := h y.key; rw [lk_nil, lk_cons, if_pos rfl] at this; cases this
 | x :: r, [], _, _, h => by have := h x.key; rw [lk_nil, lk_cons, if_pos rfl] at this; cases this
 | x :: r, y :: s, hl, hm, h => by
   obtain ⟨hx, hr⟩ := List.pairwise_cons.1 hl
   obtain ⟨hy, hs⟩ := List.pairwise_cons.1 hm
   have hk : x.key = y.key := by
    refine W.num_inj ?_
    rcases Nat.lt_trichotomy x.key.num y.key.num with h1 | h1 | h1
    · have := h x.key
      rw [lk_cons, if_pos rfl, lk_cons, if_neg (fun e => by rw [e] at h1; omega), lk_lt fun z hz => Nat.lt_trans h1 (hy z hz)] at this
      cases this
    · exact h1
    · have := h y.key
      rw [lk_cons, if_neg (fun e => by rw [e] at h1; omega), lk_cons, if_pos rfl, lk_lt fun z hz => Nat.lt_trans h1 (hx z hz)] at this
      cases this
   have hv : x.val = y.val := by
    have := h x.key
    rw [lk_cons, if_pos rfl, lk_cons, if_pos hk.symm] at this
    exact Option.some.inj this
   have hxy : x = y := by cases x; cases y; simp at hk hv; subst hk hv; rfl
   subst hxy
   congr 1
   refine srt_ext hr hs fun k => ?_
   by_cases hkk : x.key = k
   · rw [lk_lt fun z hz => by rw [← hkk]; exact hx z hz, lk_lt fun z hz => by rw [← hkk]; exact hy z hz]
   · have := h k
     rwa [lk_cons, if_neg hkk, lk_cons, if_neg hkk] at this
def lkB (l : List Bo) (k : W) : Option Bo := l.find? fun x => decide (x.key = k)
theorem lkB_cons (x : Bo) (l : List Bo) (k : W) : lkB (x :: l) k = if x.key = k then some x else lkB l k := by
 unfold lkB
 rw [List.find?_cons]
 by_cases h : x.key = k <;> simp [h]
def SrtB (l : List Bo) : Prop := l.Pairwise fun x y => x.key.num < y.key.num
theorem joinS_mem {k : Nat} : ∀ {l m : List Sl}, (∀ x ∈ l, k < x.key.num) → (∀ x ∈ m, k < x.key.num) → ∀ x ∈ joinS l m, k < x.key.num
 | [], [], _, _, x, h => by simp [joinS] at h
 | a :: r, [], hl, hm, x, h => by
   rw [joinS] at h
   rcases List.mem_cons.1 h with rfl | h
   · exact hl a (by simp)
   · exact joinS_mem (fun z hz => hl z (by simp [hz])) hm x h
 | [], b :: s, hl, hm, x, h => by
   rw [joinS] at h
   rcases List.mem_cons.1 h with rfl | h
   · exact hm b (by simp)
   · exact joinS_mem hl (fun z hz => hm z (by simp [hz])) x h
 | a :: r, b :: s, hl, hm, x, h => by
   rw [joinS] at h
   split at h
   · rcases List.mem_cons.1 h with rfl | h
     · exact hl a (by simp)
     · exact joinS_mem (fun z hz => hl z (by simp [hz])) hm x h
   · split at h
     · rcases List.mem_cons.1 h with rfl | h
       · exact hm b (by simp)
       · exact joinS_mem hl (fun z hz => hm z (by simp [hz])) x h
     · rcases List.mem_cons.1 h with rfl | h
       · exact hm b (by simp)
       · exact joinS_mem (fun z hz => hl z (by simp [hz])) (fun z hz => hm z (by simp [hz])) x h
termination_by l m => l.length + m.length
theorem joinS_srt : ∀ {l m : List Sl}, Srt l → Srt m → SrtB (joinS l m)
 | [], [], _, _ => by simp [joinS, SrtB]
 | a :: r, [], hl, hm => by
   rw [joinS]
   obtain ⟨h1, h2⟩ := List.pairwise_cons.1 hl
   exact List.pairwise_cons.2 ⟨joinS_mem h1 (by simp), joinS_srt h2 hm⟩
 | [], b :: s, hl, hm => by
   rw [joinS]
   obtain ⟨h1, h2⟩ := List.pairwise_cons.1 hm
   exact List.pairwise_cons.2 ⟨joinS_mem (by simp) h1, joinS_srt hl h2⟩
 | a :: r, b :: s, hl, hm => by
   rw [joinS]
   obtain ⟨h1, h2⟩ := List.pairwise_cons.1 hl
   obtain ⟨h3, h4⟩ := List.pairwise_cons.1 hm
   split
   · rename_i hlt
     refine List.pairwise_cons.2 ⟨joinS_mem h1 fun z hz => ?_, joinS_srt h2 hm⟩
     rcases List.mem_cons.1 hz with rfl | hz
     · exact hlt
     · exact Nat.lt_trans hlt (h3 z hz)
   · split
     · rename_i hlt
       refine List.pairwise_cons.2 ⟨joinS_mem (fun z hz => ?_) h3, joinS_srt hl h4⟩
       rcases List.mem_cons.1 hz with rfl | hz
       · exact hlt
       · exact Nat.lt_trans hlt (h1 z hz)
     · rename_i n1 n2
       have he : a.key.num = b.key.num := by omega
       exact List.pairwise_cons.2 ⟨joinS_mem (fun z hz => by dsimp only; rw [← he]; exact h1 z hz) h3, joinS_srt h2 h4⟩
termination_by l m => l.length + m.length
theorem joinS_lk : ∀ {l m : List Sl}, Srt l → Srt m → ∀ k, lkB (joinS l m) k = if (lk l k).isSome || (lk m k).isSome then some ⟨k, getW l k, getW m k, (lk m k).isSome⟩ else none
 | [], [], _, _, k => by simp [joinS, lk_nil, lkB]
 | a :: r, [], hl, hm, k => by
   obtain ⟨h1, h2⟩ := List.pairwise_cons.1 hl
   rw [joinS, lkB_cons, joinS_lk h2 hm k, getW_lk, getW_lk, getW_lk, lk_cons]
   by_cases h : a.key = k
   · subst h; simp [lk_nil]
   · simp [h]
 | [], b :: s, hl, hm, k => by
   obtain ⟨h1, h2⟩ := List.pairwise_cons.1 hm
   rw [joinS, lkB_cons, joinS_lk hl h2 k, getW_lk, getW_lk, getW_lk, lk_cons]
   by_cases h : b.key = k
   · subst h; simp [lk_nil]
   · simp [h]
 | a :: r, b :: s, hl, hm, k => by
   obtain ⟨h1, h2⟩ := List.pairwise_cons.1 hl
   obtain ⟨h3, h4⟩ := List.pairwise_cons.1 hm
   rw [joinS]
   split
   · rename_i hlt
     rw [lkB_cons, joinS_lk h2 hm k]
     simp only [getW_lk, lk_cons a r]
     by_cases h : a.key = k
     · subst h
       have h0 : lk (b :: s) a.key = none := lk_lt fun z hz => by
        rcases List.mem_cons.1 hz with rfl | hz
        · exact hlt
        · exact Nat.lt_trans hlt (h3 z hz)
       simp [h0]
     · simp [h]
   · split
     · rename_i hlt
       rw [lkB_cons, joinS_lk hl h4 k]
       simp only [getW_lk, lk_cons b s]
       by_cases h : b.key = k
       · subst h
         have h0 : lk (a :: r) b.key = none := lk_lt fun z hz => by
          rcases List.mem_cons.1 hz with rfl | hz
          · exact hlt
          · exact Nat.lt_trans hlt (h1 z hz)
         simp [h0]
       · simp [h]
     · rename_i n1 n2
       have he : a.key = b.key := W.num_inj (by omega)
       rw [lkB_cons, joinS_lk h2 h4 k]
       simp only [getW_lk, lk_cons, he]
       by_cases h : b.key = k
       · simp [h]
       · simp [h]
termination_by l m => l.length + m.length
theorem filter_srt {f : Bo → Option Sl} (hf : ∀ x y, f x = some y → y.key = x.key) : ∀ {l : List Bo}, SrtB l → Srt (l.filterMap f) ∧ ∀ k, lk (l.filterMap f) k = ((lkB l k).bind f).map (·.val)
 | [], _ => ⟨List.Pairwise.nil, fun k => rfl⟩
 | x :: r, h => by
   obtain ⟨h1, h2⟩ := List.pairwise_cons.1 h
   obtain ⟨i1, i2⟩ := filter_srt hf h2
   have hmem : ∀ z ∈ r.filterMap f, x.key.num < z.key.num := fun z hz => by
    obtain ⟨y, hy, hyz⟩ := List.mem_filterMap.1 hz
    rw [hf y z hyz]; exact h1 y hy
   cases hx : f x with
   | none =>
     rw [List.filterMap_cons_none hx]
     refine ⟨i1, fun k => ?_⟩
     rw [lkB_cons, i2]
     by_cases hk : x.key = k
     · rw [if_pos hk, Option.bind_some, hx]
       rw [← i2, lk_lt fun z hz => by rw [← hk]; exact hmem z hz]; rfl
     · rw [if_neg hk]
   | some y =>
     rw [List.filterMap_cons_some hx]
     have hyk := hf x y hx
     refine ⟨List.pairwise_cons.2 ⟨fun z hz => by rw [hyk]; exact hmem z hz, i1⟩, fun k => ?_⟩
     rw [lk_cons, lkB_cons, i2, hyk]
     by_cases hk : x.key = k
     · rw [if_pos hk, if_pos hk, Option.bind_some, hx]; rfl
     · rw [if_neg hk, if_neg hk]
theorem pickM_key (x : Bo) (y : Sl) (h : pickM x = some y) : y.key = x.key := by
 unfold pickM at h
 by_cases h0 : (if x.inB then x.b else x.a) = W.zero
 · rw [if_pos h0] at h; cases h
 · rw [if_neg h0] at h; rw [← Option.some.inj h]
theorem mergeL_srt {l m : List Sl} (hl : Srt l) (hm : Srt m) : Srt (mergeL l m) := (filter_srt pickM_key (joinS_srt hl hm)).1
def NoZ (l : List Sl) : Prop := ∀ x ∈ l, ¬ x.val = W.zero
theorem lk_mem {l : List Sl} {k v : W} (h : lk l k = some v) : ∃ x ∈ l, x.key = k ∧ x.val = v := by
 unfold lk at h
 obtain ⟨x, h1, h2⟩ := Option.map_eq_some_iff.1 h
 exact ⟨x, List.mem_of_find?_eq_some h1, by simpa using List.find?_some h1, h2⟩
theorem NoZ.not0 {l : List Sl} (h : NoZ l) {k : W} : ¬ lk l k = some W.zero := fun e => by
 obtain ⟨x, h1, _, h2⟩ := lk_mem e
 exact h x h1 h2
theorem lk_of_mem {l : List Sl} (h : Srt l) {x : Sl} (hx : x ∈ l) : lk l x.key = some x.val := by
 induction l with
 | nil => cases hx
 | cons y r ih =>
   obtain ⟨h1, h2⟩ := List.pairwise_cons.1 h
   rw [lk_cons]
   rcases List.mem_cons.1 hx with rfl | hx
   · rw [if_pos rfl]
   · rw [if_neg (fun e => by have := h1 x hx; rw [e] at this; omega), ih h2 hx]
theorem mergeL_lk {l m : List Sl} (hl : Srt l) (hm : Srt m) (hz : NoZ l) (k : W) : lk (mergeL l m) k = match lk m k with
  | some v => if v = W.zero then none else some v
  | none => lk l k := by
 unfold mergeL
 rw [(filter_srt pickM_key (joinS_srt hl hm)).2, joinS_lk hl hm]
 cases h1 : lk m k with
 | some v => simp [getW_lk, h1, pickM]; split <;> simp
 | none =>
   cases h2 : lk l k with
   | none => simp
   | some v =>
     have : ¬ v = W.zero := fun e => hz.not0 (k := k) (by rw [h2, e])
     simp [getW_lk, h1, h2, pickM, this]
structure Ri (l : List Sl) : Prop where
 srt : Srt l
 noz : NoZ l
 len : l.length ≤ 1000
theorem rightB_iff {l : List Sl} : rightB l = true ↔ Ri l := by
 unfold rightB patchB
 simp only [Bool.and_eq_true, decide_eq_true_eq, Bool.not_eq_true', risesB_iff]
 constructor
 · rintro ⟨⟨h1, h2⟩, h3⟩
   refine ⟨h2, fun x hx e => ?_, h1⟩
   have := List.any_eq_false.1 h3 x hx
   simp [e] at this
 · intro h
   refine ⟨⟨h.len, h.srt⟩, List.any_eq_false.2 fun x hx => ?_⟩
   simpa using h.noz x hx
theorem patchB_iff {l : List Sl} : patchB l = true ↔ l.length ≤ 1000 ∧ Srt l := by
 unfold patchB
 simp only [Bool.and_eq_true, decide_eq_true_eq, risesB_iff]
theorem NoZ.get {l : List Sl} (h : NoZ l) (k : W) : lk l k = if getW l k = W.zero then none else some (getW l k) := by
 rw [getW_lk]
 cases h1 : lk l k with
 | none => simp
 | some v =>
   have : ¬ v = W.zero := fun e => h.not0 (k := k) (by rw [h1, e])
   simp [this]
theorem mergeL_noz {l m : List Sl} (hl : Srt l) (hm : Srt m) (hz : NoZ l) : NoZ (mergeL l m) := fun x hx e => by
 have h := lk_of_mem (mergeL_srt hl hm) hx
 rw [mergeL_lk hl hm hz, e] at h
 split at h
 · split at h
   · cases h
   · rename_i h0; exact h0 (Option.some.inj h)
 · exact hz.not0 h
theorem joinS_bound (l m : List Sl) : (mergeL l m).length ≤ l.length + m.length ∧ (diffL l m).length ≤ l.length + m.length :=
 ⟨Nat.le_trans (List.length_filterMap_le ..) (joinS_len l m), Nat.le_trans (List.length_filterMap_le ..) (joinS_len l m)⟩
end Go.Ev
namespace Go.Ev
theorem cellsAt_findS {H : Hp} {b o n : Nat} {cs : List Value} (h : cellsAt H b o n = some cs) : ∃ e, findE H b = some e := by
 unfold cellsAt at h
 cases hf : findE H b with
 | none => rw [hf] at h; cases h
 | some e => exact ⟨e, rfl⟩
def roAll : Hp → Hp
 | [] => []
 | e :: r => { e with kind := .ro } :: (roAll r).filter (fun x => x.blk != e.blk)
theorem findE_filter (b c : Nat) (h : b ≠ c) : ∀ H : Hp, findE (H.filter fun x => x.blk != c) b = findE H b
 | [] => rfl
 | e :: r => by
   rw [List.filter_cons]
   by_cases hc : e.blk = c
   · have : (e.blk != c) = false := by simp [hc]
     rw [this, if_neg (by simp), findE_filter b c h r, findE, if_neg (by rw [hc]; exact h)]
   · have : (e.blk != c) = true := by simp [hc]
     rw [this, if_pos rfl, findE, findE, findE_filter b c h r]
theorem findE_roAll (b : Nat) : ∀ H : Hp, findE (roAll H) b = (findE H b).map fun e => { e with kind := .ro }
 | [] => rfl
 | e :: r => by
   unfold roAll
   rw [findE, findE]
   by_cases h : b = e.blk
   · rw [if_pos h, if_pos h]; rfl
   · rw [if_neg h, if_neg h, findE_filter b e.blk h, findE_roAll b r]
theorem cellsAt_roAll (H : Hp) : cellsAt (roAll H) = cellsAt H := by
 funext b o n
 unfold cellsAt
 rw [findE_roAll]
 cases findE H b <;> rfl
theorem roAll_mem : ∀ {H : Hp} {e : Ent}, e ∈ roAll H → e.kind = .ro ∧ findE (roAll H) e.blk = some e
 | [], e, h => by cases h
 | x :: r, e, h => by
   unfold roAll at h ⊢
   rcases List.mem_cons.1 h with rfl | h
   · exact ⟨rfl, by simp [findE]⟩
   · obtain ⟨h1, h2⟩ := List.mem_filter.1 h
     obtain ⟨h3, h4⟩ := roAll_mem h1
     have hne : e.blk ≠ x.blk := by simpa using h2
     refine ⟨h3, ?_⟩
     rw [findE, if_neg hne, findE_filter _ _ hne, h4]
theorem derE_of {H : Hp} : ∀ {L : Hp}, (∀ e ∈ L, e.kind = .ro ∧ findE H e.blk = some e) → derE H L
 | [], _ => trivial
 | e :: r, h => by
   obtain ⟨h1, h2⟩ := h e (by simp)
   refine ⟨⟨h1, ?_⟩, derE_of fun x hx => h x (by simp [hx])⟩
   unfold cellsAt
   rw [h2]
   simp [subL]
structure roM (M : Hp) : Prop where
 der : derE M M
 marks : marksOf M = []
theorem roAll_ro (H : Hp) : roM (roAll H) := by
 have hk : ∀ {L : Hp}, (∀ e ∈ L, e.kind = .ro) → marksOf L = [] := by
  intro L
  induction L with
  | nil => intro _; rfl
  | cons x r ih => intro h; simp only [marksOf, h x (by simp)]; exact ih fun e he => h e (by simp [he])
 exact ⟨derE_of fun e he => roAll_mem he, hk fun e he => (roAll_mem he).1⟩
structure Ext (H H' : Hp) : Prop where
 marks : marksOf H' = []
 keep : ∀ b o n cs, cellsAt H b o n = some cs → cellsAt H' b o n = some cs
theorem Ext.trans {H H' H'' : Hp} (h : Ext H H') (h' : Ext H' H'') : Ext H H'' := ⟨h'.marks, fun b o n cs hc => h'.keep _ _ _ _ (h.keep _ _ _ _ hc)⟩
theorem fresh_findS {b : Nat} : ∀ {H : Hp}, fresh b H → ∀ {c : Nat} {e : Ent}, findE H c = some e → ¬ b = c ∧ ¬ c = b
 | [], _, _, _, h => by simp [findE] at h
 | x :: r, hf, c, e, h => by
   simp only [findE] at h
   by_cases hc : c = x.blk
   · subst hc; exact ⟨hf.1, hf.2.1⟩
   · rw [if_neg hc] at h; exact fresh_findS hf.2.2 h
theorem fresh_appS {b : Nat} : ∀ {A B : Hp}, fresh b A → fresh b B → fresh b (A ++ B)
 | [], _, _, h => h
 | e :: r, B, h, h' => ⟨h.1, h.2.1, fresh_appS h.2.2 h'⟩
theorem fresh_app_iff {b : Nat} : ∀ {A B : Hp}, fresh b (A ++ B) ↔ fresh b A ∧ fresh b B
 | [], _ => ⟨fun h => ⟨trivial, h⟩, fun h => h.2⟩
 | e :: r, B => by
   show (b ≠ e.blk ∧ e.blk ≠ b ∧ fresh b (r ++ B)) ↔ _
   rw [fresh_app_iff]
   exact ⟨fun ⟨h1, h2, h3, h4⟩ => ⟨⟨h1, h2, h3⟩, h4⟩, fun ⟨⟨h1, h2, h3⟩, h4⟩ => ⟨h1, h2, h3, h4⟩⟩
theorem Ext.cons {H : Hp} {e : Ent} (hm : marksOf H = []) (he : marksOf [e] = []) (hf : fresh e.blk H) : Ext H (e :: H) := by
 refine ⟨by rw [show e :: H = [e] ++ H from rfl, marks_append, he, hm]; rfl, fun b o n cs h => ?_⟩
 obtain ⟨e', he'⟩ := cellsAt_findS h
 have := (fresh_findS hf he').2
 unfold cellsAt at h ⊢
 simp only [findE, if_neg this]
 exact h
theorem findE_app {b : Nat} : ∀ {A B : Hp}, findE (A ++ B) b = (match findE A b with | some e => some e | none => findE B b)
 | [], _ => rfl
 | e :: r, B => by
   simp only [List.cons_append, findE]
   split
   · rfl
   · exact findE_app
theorem cellsAt_swap {N M : Hp} (hf : freshN N M) : cellsAt (N ++ M) = cellsAt (M ++ N) := by
 have hne : ∀ {N : Hp}, freshN N M → ∀ {b : Nat} {e e' : Ent}, findE N b = some e → findE M b = some e' → False := by
  intro N
  induction N with
  | nil => intro _ b e e' h; simp [findE] at h
  | cons x r ih =>
    intro hf b e e' h h'
    simp only [findE] at h
    by_cases hb : b = x.blk
    · exact (fresh_findS hf.1 h').2 hb
    · rw [if_neg hb] at h; exact ih hf.2 h h'
 funext b o n
 unfold cellsAt
 rw [findE_app, findE_app]
 cases h1 : findE N b with
 | none => cases h2 : findE M b <;> rfl
 | some e => cases h2 : findE M b with
   | none => rfl
   | some e' => exact (hne hf h1 h2).elim
theorem Ext.app {M N : Hp} (hm : marksOf M = []) (hn : marksOf N = []) : Ext M (M ++ N) := by
 refine ⟨by rw [marks_append, hm, hn]; rfl, fun b o n cs h => ?_⟩
 obtain ⟨e, he⟩ := cellsAt_findS h
 unfold cellsAt at h ⊢
 rw [findE_app, he]
 rw [he] at h
 exact h
theorem freshN_mono {N A B : Hp} (h : freshN N (A ++ B)) : freshN N A ∧ freshN N B := by
 induction N with
 | nil => exact ⟨trivial, trivial⟩
 | cons x r ih =>
   obtain ⟨h1, h2⟩ := fresh_app_iff.1 h.1
   exact ⟨⟨h1, (ih h.2).1⟩, ⟨h2, (ih h.2).2⟩⟩
theorem freshN_sym : ∀ {L N : Hp}, freshN N L → freshN L N := by
 intro L N h
 have hne : ∀ e ∈ N, ∀ x ∈ L, x.blk ≠ e.blk ∧ e.blk ≠ x.blk := by
  induction N with
  | nil => intro e he; cases he
  | cons y r ih =>
    intro e he x hx
    rcases List.mem_cons.1 he with rfl | he
    · have := fresh_ne h.1 x hx; exact ⟨this, Ne.symm this⟩
    · exact ih h.2 e he x hx
 exact freshN_of fun e he x hx => (hne x hx e he).2
theorem freshN_comb : ∀ {L A B : Hp}, freshN L A → freshN L B → freshN L (A ++ B)
 | [], _, _, _, _ => trivial
 | e :: r, A, B, h, h' => ⟨fresh_appS h.1 h'.1, freshN_comb h.2 h'.2⟩
theorem CallsV.toK {P : Program} {g : FuncId} {args : List Value} {M : Hp} {K K' : Value → Hp → Prop} (hc : CallsV P g args M K) (h : ∀ v N, K v N → K' v N) : CallsV P g args M K' := by
 refine ⟨hc.1, fun w0 mu w hs => (hc.2 w0 mu w hs).mono ?_⟩
 rintro e w' ⟨v, H', h1, h2, h3⟩
 exact ⟨v, H', h1, h v H' h2, h3⟩
def NewK (M0 : Hp) (Q : Value → Hp → Prop) : Value → Hp → Prop := fun v N => allWr N ∧ marksOf N = [] ∧ (freshN N M0 → Q v (N ++ M0))
def RdOnly (Q : Value → Hp → Prop) : Prop := ∀ v A B, cellsAt A = cellsAt B → Q v A → Q v B
def CallsR (P : Program) (g : FuncId) (args : List Value) (M : Hp) (Q : Value → Hp → Prop) : Prop :=
 ∀ M0, roM M0 → cellsAt M0 = cellsAt M → CallsV P g args M0 (NewK M0 Q)
theorem freshN_iff {N H : Hp} : freshN N H ↔ ∀ e ∈ N, ∀ x ∈ H, x.blk ≠ e.blk := by
 constructor
 · intro h
   induction N with
   | nil => intro e he; cases he
   | cons y r ih =>
     intro e he x hx
     rcases List.mem_cons.1 he with rfl | he
     · exact fresh_ne h.1 x hx
     · exact ih h.2 e he x hx
 · exact freshN_of
theorem CallsV.perm {P : Program} {g : FuncId} {args : List Value} {H : Hp} {K K' : Value → Hp → Prop} (hc : CallsV P g args H K) (hk : ∀ v H', K v H' → ∃ H'', H''.Perm H' ∧ marksOf H'' = marksOf H' ∧ K' v H'') : CallsV P g args H K' := by
 refine ⟨hc.1, fun w0 mu w hs => (hc.2 w0 mu w hs).mono ?_⟩
 rintro e w' ⟨v, H', rfl, h1, h2, h3⟩
 obtain ⟨H'', h4, h5, h6⟩ := hk v H' h1
 exact ⟨v, H'', rfl, h6, h2.perm h4.symm, h5.trans h3⟩
def Gr (M M' : Hp) : Prop := marksOf M = [] ∧ ∃ N, M' = M ++ N ∧ allWr N ∧ marksOf N = []
theorem allWr_app : ∀ {A B : Hp}, allWr A → allWr B → allWr (A ++ B)
 | [], _, _, h => h
 | _ :: _, _, h, h' => ⟨h.1, allWr_app h.2 h'⟩
theorem Gr.refl {M : Hp} (h : marksOf M = []) : Gr M M := ⟨h, [], by simp, trivial, rfl⟩
theorem Gr.trans {M M' M'' : Hp} (h : Gr M M') (h' : Gr M' M'') : Gr M M'' := by
 obtain ⟨h1, N, rfl, h2, h3⟩ := h
 obtain ⟨_, N', rfl, h4, h5⟩ := h'
 exact ⟨h1, N ++ N', by rw [List.append_assoc], allWr_app h2 h4, by rw [marks_append, h3, h5]; rfl⟩
theorem Gr.ext {M M' : Hp} (h : Gr M M') : Ext M M' := by
 obtain ⟨h1, N, rfl, _, h3⟩ := h
 exact Ext.app h1 h3
theorem Gr.marks {M M' : Hp} (h : Gr M M') : marksOf M' = [] := h.ext.marks
theorem doneK2 {M M1 : Hp} (L : Hp) {Q : Value → Hp → Prop} {v : Value} (hg : Gr M M1) (hQ : RdOnly Q) (hq : Q v M1) : ∃ H', H'.Sublist (L ++ dropM M1) ∧ NewK M Q v H' := by
 obtain ⟨h1, N, rfl, h2, h3⟩ := hg
 refine ⟨N, ?_, h2, h3, fun hf => hQ v _ _ (cellsAt_swap hf).symm hq⟩
 rw [dropM_eq (by rw [marks_append, h1, h3]; rfl), ← List.append_assoc]
 exact List.sublist_append_right _ _
theorem derE_behind {L M : Hp} (hL : freshN L M) : derE (L ++ M) (roAll M) := by
 have hl : ∀ {R : Hp}, (∀ e ∈ R, e ∈ roAll M) → derE (L ++ M) R := by
  intro R
  induction R with
  | nil => intro _; trivial
  | cons e r ih =>
    intro h
    obtain ⟨h1, h2⟩ := roAll_mem (h e (by simp))
    refine ⟨⟨h1, ?_⟩, ih fun x hx => h x (by simp [hx])⟩
    rw [findE_roAll] at h2
    obtain ⟨e0, h3, h4⟩ := Option.map_eq_some_iff.1 h2
    have hLn : findE L e.blk = none := by
     cases hL0 : findE L e.blk with
     | none => rfl
     | some x =>
       obtain ⟨hx1, hx2⟩ := findE_mem hL0
       obtain ⟨hy1, hy2⟩ := findE_mem h3
       exact absurd (hy2.trans hx2.symm) (freshN_iff.1 hL x hx1 e0 hy1)
    unfold cellsAt
    rw [findE_app, hLn, h3, ← h4]
    simp [subL]
 exact hl fun _ h => h
theorem useL {P : Program} {g : FuncId} {args : List Value} (L : Hp) {M : Hp} {Q : Value → Hp → Prop} {K' : Value → Hp → Prop} (hc : CallsR P g args M Q) (hQ : RdOnly Q) (hm : marksOf M = []) (hL : freshN L M)
  (hk : ∀ v M', Gr M M' → freshN L M' → Q v M' → K' v (L ++ M')) : CallsV P g args (L ++ M) K' := by
 have hc0 := hc (roAll M) (roAll_ro M) (cellsAt_roAll M)
 have hder := derE_behind hL
 refine (hc0.use hder (K' := fun v H' => ∃ N, H' = N ++ (L ++ M) ∧ marksOf N = [] ∧ K' v (L ++ (M ++ N))) ?_).perm ?_
 · rintro v N ⟨h1, h2, h3⟩
   refine ⟨h1, h2, fun hf => ⟨N, rfl, h2, ?_⟩⟩
   have hfL := (freshN_mono hf).1
   have hfM := (freshN_mono hf).2
   have hf0 : freshN N (roAll M) := freshN_iff.2 fun e he x hx => by
    have h2 := (roAll_mem hx).2
    rw [findE_roAll] at h2
    obtain ⟨e0, h3, h4⟩ := Option.map_eq_some_iff.1 h2
    obtain ⟨hy1, hy2⟩ := findE_mem h3
    rw [← hy2]
    exact freshN_iff.1 hfM e he e0 hy1
   refine hk v (M ++ N) ⟨hm, N, rfl, h1, h2⟩ (freshN_comb hL (freshN_sym hfL)) (hQ _ _ _ ?_ (h3 hf0))
   rw [cellsAt_swap hf0]
   funext b o n
   have hh := congrFun (congrFun (congrFun (cellsAt_roAll M) b) o) n
   unfold cellsAt at hh ⊢
   rw [findE_app, findE_app]
   rw [findE_roAll] at hh ⊢
   cases hfm : findE M b with
   | none => rfl
   | some e => rw [hfm] at hh; exact hh
 · rintro v H' ⟨N, rfl, hN, hk'⟩
   refine ⟨L ++ (M ++ N), ?_, ?_, hk'⟩
   · rw [← List.append_assoc]; exact List.perm_append_comm
   · simp only [marks_append, hN, List.append_nil, List.nil_append]
theorem useP {P : Program} {g : FuncId} {args : List Value} (L : Hp) {M : Hp} {v : Value} {K' : Value → Hp → Prop} (hc : ∀ M0, roM M0 → cellsAt M0 = cellsAt M → CallsV P g args M0 (Ret0 v)) (hL : freshN L M)
  (hk : K' v (L ++ M)) : CallsV P g args (L ++ M) K' :=
 (hc (roAll M) (roAll_ro M) (cellsAt_roAll M)).pure (derE_behind hL) hk
def LiR {α : Type} (c : α → List Value) (s : Nat) (H : Hp) (l : List α) (v : Value) : Prop :=
 ∃ p k, v = .slice p l.length k ∧ (l = [] ∨ ∃ b o, p = some ⟨b, o, none⟩ ∧ cellsAt H b o (l.length * s) = some (l.flatMap c))
section
variable {α : Type} {c : α → List Value} {s : Nat} {H : Hp} {l : List α} {v : Value}
theorem LiR.ext {H' : Hp} (h : Ext H H') (hl : LiR c s H l v) : LiR c s H' l v := by
 obtain ⟨p, k, rfl, h1 | ⟨b, o, rfl, h1⟩⟩ := hl
 · exact ⟨p, k, rfl, .inl h1⟩
 · exact ⟨_, k, rfl, .inr ⟨b, o, rfl, h.keep _ _ _ _ h1⟩⟩
theorem LiR.congr {H' : Hp} (h : cellsAt H = cellsAt H') (hl : LiR c s H l v) : LiR c s H' l v := by
 obtain ⟨p, k, rfl, h1 | ⟨b, o, rfl, h1⟩⟩ := hl
 · exact ⟨p, k, rfl, .inl h1⟩
 · exact ⟨_, k, rfl, .inr ⟨b, o, rfl, by rw [← h]; exact h1⟩⟩
theorem LiR.rd (l : List α) : RdOnly (fun v H => LiR c s H l v) := fun _ _ _ h hl => hl.congr h
theorem LiR.nil (H : Hp) (k : Nat) : LiR c s H [] (.slice none 0 k) := ⟨none, k, rfl, .inl rfl⟩
theorem flatMap_len (hs : ∀ x, (c x).length = s) : ∀ l : List α, (l.flatMap c).length = l.length * s
 | [] => by simp
 | x :: r => by rw [List.flatMap_cons, List.length_append, hs, flatMap_len hs r, List.length_cons, Nat.succ_mul, Nat.add_comm]
theorem flatMap_at (hs : ∀ x, (c x).length = s) : ∀ {l : List α} {i : Nat} {x : α}, l[i]? = some x → ∀ {q n : Nat}, q + n ≤ s → List.take n (List.drop (i * s + q) (l.flatMap c)) = List.take n (List.drop q (c x))
 | [], i, x, h, _, _, _ => by simp at h
 | y :: r, 0, x, h, q, n, hq => by
   simp only [List.getElem?_cons_zero, Option.some.injEq] at h
   subst h
   rw [Nat.zero_mul, Nat.zero_add, List.flatMap_cons, List.drop_append_of_le_length (by rw [hs]; omega), List.take_append_of_le_length (by rw [List.length_drop, hs]; omega)]
 | y :: r, i + 1, x, h, q, n, hq => by
   rw [List.flatMap_cons, Nat.succ_mul, show i * s + s + q = s + (i * s + q) by omega, ← List.drop_drop, show List.drop s (c y ++ r.flatMap c) = r.flatMap c by rw [← hs y]; exact List.drop_left ..]
   exact flatMap_at hs (l := r) (by simpa using h) hq
theorem LiR.open (hs : ∀ x, (c x).length = s) (h0 : 0 < s) (hl : LiR c s H l v) : ∃ p k, v = .slice p l.length k ∧ (l = [] ∨ ∃ b f d kd cs, p = some ⟨b, f + d, none⟩ ∧ findE H b = some ⟨b, f, kd, cs⟩ ∧
  (∀ i x, l[i]? = some x → ∀ q n, q + n ≤ s → d + i * s + q + n ≤ cs.length ∧ List.take n (List.drop (d + i * s + q) cs) = List.take n (List.drop q (c x))) ∧ d + l.length * s ≤ cs.length ∧ List.take (l.length * s) (List.drop d cs) = l.flatMap c) := by
 obtain ⟨p, k, rfl, h1 | ⟨b, o, rfl, h1⟩⟩ := hl
 · exact ⟨p, k, rfl, .inl h1⟩
 · refine ⟨_, k, rfl, .inr ?_⟩
   obtain ⟨⟨b', f, kd, cs⟩, he⟩ := cellsAt_findS h1
   obtain rfl : b' = b := (findE_mem he).2
   unfold cellsAt at h1
   rw [he] at h1
   dsimp only at h1
   split at h1
   case isFalse => cases h1
   rename_i hle
   obtain ⟨d, rfl⟩ : ∃ d, o = f + d := ⟨o - f, by omega⟩
   rw [Nat.add_sub_cancel_left] at h1
   unfold subL at h1
   split at h1
   case isFalse => cases h1
   rename_i hlen
   have h2 := Option.some.inj h1
   refine ⟨b', f, d, kd, cs, rfl, he, fun i x hx q n hq => ?_, hlen, h2⟩
   have hi := (List.getElem?_eq_some_iff.1 hx).1
   have hm : i * s + s ≤ l.length * s := by rw [← Nat.succ_mul]; exact Nat.mul_le_mul_right _ hi
   refine ⟨by omega, ?_⟩
   rw [← flatMap_at hs hx hq, ← h2, List.drop_take, List.take_take, List.drop_drop, Nat.min_eq_left (by omega), Nat.add_assoc]
theorem OutC.liR {e n : Nat} {cs : List Value} {N : Hp} (ho : OutC e s cs n v N) (hn : n = l.length) (hc : cs = l.flatMap c) (X : Hp) : LiR c s (N ++ X) l v := by
 subst hn hc
 obtain ⟨p, k, hv, h⟩ := ho.at X
 refine ⟨p, k, hv, ?_⟩
 rcases h with h | ⟨b, hb, h⟩
 · exact .inl (List.length_eq_zero_iff.1 h)
 · exact .inr ⟨b, 0, hb, h⟩
end
end Go.Ev
namespace Go.Ev
theorem Ext.sl {H H' : Hp} (h : Ext H H') {l : List Sl} {v : Value} (hs : SlR H l v) : SlR H' l v := by
 obtain ⟨p, c, rfl, h1 | ⟨b, o, rfl, h1⟩⟩ := hs
 · exact ⟨p, c, rfl, .inl h1⟩
 · exact ⟨_, c, rfl, .inr ⟨b, o, rfl, h.keep _ _ _ _ h1⟩⟩
def ofG : List Value → Option Value
 | [.int .i64 n] => if -9223372036854775808 ≤ n ∧ n ≤ 9223372036854775807 then some (W.ofInt n).v else none
 | _ => none
attribute [push_cast] ofG
theorem SlR.vec {l : List Sl} {b n c : Nat} {k : Kind} {cs : List Value} {H : Hp} (h : cs = slC l) (hn : n = l.length) : SlR (⟨b, 0, k, cs⟩ :: H) l (.slice (some ⟨b, 0, none⟩) n c) := by
 subst h hn
 refine ⟨_, c, rfl, .inr ⟨b, 0, rfl, ?_⟩⟩
 simp only [cellsAt, findE, if_true, Nat.le_refl, Nat.sub_self, subL, Nat.zero_add, slC_len, List.drop_zero]
 rw [slC_take]
theorem Sl.takeA (x : Sl) (l : List Value) : List.take 8 (x.cells ++ l) = x.cells := rfl
theorem Sl.dropB (x : Sl) (l : List Value) (n : Nat) : List.drop (n + 8) (x.cells ++ l) = List.drop n l := rfl
attribute [push_cast] Sl.takeA Sl.dropB
end Go.Ev
namespace Go.Proofs.YtpcjmmdgopihcaaGreatDoor
open Go Go.Ev Go.Proofs
section
variable {H : Hp} {l m : List Sl} {v u : Value} {k w : W} {K' : Value → Hp → Prop}
end
section
theorem n3 : (W.ofInt 3).num = 3 := by decide
theorem n5 : (W.ofInt 5).num = 5 := by decide
theorem n1 : (W.ofInt 1).num = 1 := by decide
end
end Go.Proofs.YtpcjmmdgopihcaaGreatDoor
namespace Go.Proofs.YtpcjmmdgopihcaaGreatDoor
open Go Go.Ev Go.Proofs Go.ChangeShapes Go.WideShapes Go.ChangeAt Go.RowKit
theorem own : ownKnob Tryz.prog.godebug = none := by kernel_rfl
theorem kids : Kids Tryz.prog (· < Tryz.prog.types.size) := kids_rows (by kernel_rfl) (by kernel_rfl)
theorem full : ∀ t e, t < Tryz.prog.types.size → Tryz.prog.underlying t = some (.slice e) → 0 < Tryz.prog.cellsOf e := slices_full_of Tryz.prog (by kernel_rfl)
theorem i64_wf {n : Int} (h : (Lit.int .i64 n).wf = true) : i64In n := by
 simp [Lit.wf, IntKind.min, IntKind.max, IntKind.signed, IntKind.bits] at h
 exact ⟨by omega, by omega⟩
theorem u64_wf {n : Int} (h : (Lit.int .u64 n).wf = true) : ∃ m : Nat, n = m ∧ m < 18446744073709551616 := by
 simp [Lit.wf, IntKind.min, IntKind.max, IntKind.signed, IntKind.bits] at h
 exact ⟨n.toNat, by omega, by omega⟩
theorem word_cells {cs : List Value} (h : All2 FK.ok [.int .u64, .int .u64, .int .u64, .int .u64] cs) : ∃ w : W, cs = w.cells := by
 cases h with
 | cons a1 h => cases h with
   | cons a2 h => cases h with
     | cons a3 h => cases h with
       | cons a4 h =>
         cases h
         obtain ⟨x1, rfl, w1⟩ := a1
         obtain ⟨x2, rfl, w2⟩ := a2
         obtain ⟨x3, rfl, w3⟩ := a3
         obtain ⟨x4, rfl, w4⟩ := a4
         obtain ⟨y1, rfl, z1⟩ := u64_wf w1
         obtain ⟨y2, rfl, z2⟩ := u64_wf w2
         obtain ⟨y3, rfl, z3⟩ := u64_wf w3
         obtain ⟨y4, rfl, z4⟩ := u64_wf w4
         exact ⟨⟨y1, y2, y3, y4, z1, z2, z3, z4⟩, rfl⟩
theorem calls_law {W : World} {f : FuncId} {args : Array Value} {K : Ending → World → Prop} (h : CallsV Tryz.prog f args.toList (roW W) (Ret0 (.bool true)))
  (hk : ∀ W', W'.os = W.os → W'.output = W.output → (∀ b, b < W.heap.size → W'.heap[b]? = W.heap[b]?) → K (.returned (.bool true)) W') : Calls Tryz.prog f args W K := by
 have h2 := (h.2 W (fun _ => False) W (roW_sat W)).calls (fun k => by unfold Fence.room Fr; simp)
 rw [Array.toArray_toList] at h2
 refine h2.mono ?_
 rintro e W' ⟨v, H', rfl, ⟨rfl, _⟩, hs, _⟩
 exact hk W' hs.os hs.output fun b hb => hs.old b hb id
end Go.Proofs.YtpcjmmdgopihcaaGreatDoor
