/- EvC: '==' on values whose types are built of bools, integers and strings. -/
import Derived.Test.YtndioekjgmbomaaDoorEvB
import Derived.ChangeKeysEq
import Derived.LaidEqlPtr
set_option linter.unusedSimpArgs false
set_option linter.unusedVariables false
namespace Go.Ev

inductive CK where
  | b | i | s

def flatK (P : Program) : Nat → TypeId → Option (List CK)
  | 0, _ => none
  | d + 1, t =>
    match P.underlying t with
    | some .bool => some [.b]
    | some (.int _) => some [.i]
    | some .string => some [.s]
    | some (.array n e) => (flatK P d e).bind fun l => if l.length = P.cellsOf e then some ((List.replicate n l).flatten) else none
    | some (.struct fs) => if P.stoodInHeld t then none else
      fs.toList.foldr (fun f acc off => if f.name ≠ "_" ∧ f.offset = off then (flatK P d f.type).bind fun l => if l.length = P.cellsOf f.type then (acc (off + l.length)).map (l ++ ·) else none else none) (fun _ => some []) 0
    | _ => none

def eqC : List CK → List Value → List Value → Option Bool
  | [], [], [] => some true
  | .i :: ks, .int k a :: xs, .int k' b :: ys => if k = k' then (eqC ks xs ys).map fun r => (a == b) && r else none
  | .b :: ks, .bool a :: xs, .bool b :: ys => (eqC ks xs ys).map fun r => (a == b) && r
  | .s :: ks, .string a :: xs, .string b :: ys => (eqC ks xs ys).map fun r => (a.toList == b.toList) && r
  | _, _, _ => none

theorem eqC_length : ∀ {ks : List CK} {xs ys : List Value} {r : Bool}, eqC ks xs ys = some r → xs.length = ks.length ∧ ys.length = ks.length
  | [], xs, ys, r, h => by
    cases xs <;> cases ys <;> simp [eqC] at h ⊢
  | k :: ks, xs, ys, r, h => by
    cases xs with
    | nil => cases k <;> simp [eqC] at h
    | cons x xs =>
      cases ys with
      | nil => cases k <;> cases x <;> simp [eqC] at h
      | cons y ys =>
        have key : ∃ r', eqC ks xs ys = some r' := by
          cases hh : eqC ks xs ys with
          | some r' => exact ⟨r', rfl⟩
          | none => cases k <;> cases x <;> cases y <;> simp [eqC, hh] at h
        obtain ⟨r', hr⟩ := key
        have := eqC_length hr
        simp [this.1, this.2]

theorem eqC_append : ∀ {k1 k2 : List CK} {xs ys : List Value} {r : Bool}, eqC (k1 ++ k2) xs ys = some r →
    ∃ r1 r2, eqC k1 (xs.take k1.length) (ys.take k1.length) = some r1 ∧ eqC k2 (xs.drop k1.length) (ys.drop k1.length) = some r2 ∧ r = (r1 && r2)
  | [], k2, xs, ys, r, h => ⟨true, r, by simp [eqC], by simpa using h, by simp⟩
  | k :: k1, k2, xs, ys, r, h => by
    have hl := eqC_length h
    cases xs with
    | nil => simp at hl
    | cons x xs =>
      cases ys with
      | nil => simp at hl
      | cons y ys =>
        cases k <;> cases x <;> cases y <;> simp only [List.cons_append, eqC, reduceCtorEq] at h
        case b.bool.bool a b =>
          cases hh : eqC (k1 ++ k2) xs ys with
          | none => simp [hh] at h
          | some r' =>
            obtain ⟨r1, r2, h1, h2, h3⟩ := eqC_append hh
            simp only [hh, Option.map_some, Option.some.injEq] at h
            exact ⟨(a == b) && r1, r2, by simp [eqC, h1], by simpa using h2, by rw [← h, h3, Bool.and_assoc]⟩
        case i.int.int k a k' b =>
          split at h
          · rename_i hk
            cases hh : eqC (k1 ++ k2) xs ys with
            | none => simp [hh] at h
            | some r' =>
              obtain ⟨r1, r2, h1, h2, h3⟩ := eqC_append hh
              simp only [hh, Option.map_some, Option.some.injEq] at h
              exact ⟨(a == b) && r1, r2, by simp [eqC, h1, hk], by simpa using h2, by rw [← h, h3, Bool.and_assoc]⟩
          · cases h
        case s.string.string a b =>
          cases hh : eqC (k1 ++ k2) xs ys with
          | none => simp [hh] at h
          | some r' =>
            obtain ⟨r1, r2, h1, h2, h3⟩ := eqC_append hh
            simp only [hh, Option.map_some, Option.some.injEq] at h
            exact ⟨(a.toList == b.toList) && r1, r2, by simp [eqC, h1], by simpa using h2, by rw [← h, h3, Bool.and_assoc]⟩

theorem cellsOf_of {P : Program} {t : TypeId} {n : Nat} {ag : Bool} (h : tyI P t = some (n, ag)) : P.cellsOf t = n := by
  unfold tyI at h
  split at h <;> simp at h
  all_goals (rename_i hi hu; simp [Program.cellsOf, hi, h.1])

theorem tyI_some {P : Program} {t : TypeId} {d : TypeDesc} (h : P.underlying t = some d) : ∃ ag, tyI P t = some (P.cellsOf t, ag) ∧ (ag = true ↔ (∃ fs, d = .struct fs) ∨ ∃ n e, d = .array n e) := by
  obtain ⟨i, hi⟩ := info_of_underlying h
  unfold tyI
  rw [hi, h]
  cases d <;> simp [Program.cellsOf, hi]

theorem flat_one {P : Program} {d : Nat} {e : TypeId} {l : List CK} {n : Nat} (h : flatK P d e = some l) (ht : tyI P e = some (n, false)) : l.length = 1 := by
  cases d with
  | zero => simp [flatK] at h
  | succ d =>
    unfold flatK at h
    split at h
    · cases h; rfl
    · cases h; rfl
    · cases h; rfl
    · rename_i m e' hu
      obtain ⟨ag', ht', hag⟩ := tyI_some hu
      rw [ht] at ht'; cases ht'; simp at hag
    · rename_i fs hu
      obtain ⟨ag', ht', hag⟩ := tyI_some hu
      rw [ht] at ht'; cases ht'; simp at hag
    · cases h

theorem part_seg {ag : Bool} {n : Nat} (zs : List Value) (o : Nat) (h : ((zs.drop o).take n).length = n) (h1 : ag = false → n = 1) :
    ∃ z, partL ag zs.toArray o n = some z ∧ ofCells ag ((zs.drop o).take n) = some z := by
  cases ag with
  | true => exact ⟨_, rfl, by simp [ofCells, List.extract_eq_take_drop]⟩
  | false =>
    obtain rfl := h1 rfl
    have hlt : o < zs.length := by simp at h; omega
    refine ⟨zs[o], by simp [partL, hlt], ?_⟩
    rw [List.drop_eq_getElem_cons hlt]
    rfl

theorem flatK_under {P : Program} {d : Nat} {e : TypeId} {l : List CK} (h : flatK P d e = some l) : ∃ de, P.underlying e = some de := by
  cases hu' : P.underlying e with
  | some de => exact ⟨de, rfl⟩
  | none => cases d <;> simp [flatK, hu'] at h

theorem run_eqC {P : Program} : ∀ (d : Nat) {t : TypeId} {ks : List CK} {n : Nat} {ag : Bool} {xs ys : List Value} {x y : Value} {r : Bool} (w : World) (D : Nat),
    flatK P d t = some ks → tyI P t = some (n, ag) → ofCells ag xs = some x → ofCells ag ys = some y → eqC ks xs ys = some r → (Op.equalIn (d + D) t x y).run P w = .ok r w
  | 0, _, _, _, _, _, _, _, _, _, _, _, h, _, _, _, _ => by simp [flatK] at h
  | d + 1, t, ks, n, ag, xs, ys, x, y, r, w, D, h, hty, hx, hy, he => by
    have hd : d + 1 + D = (d + D) + 1 := by omega
    rw [hd]
    -- one part of an aggregate
    have part1 : ∀ {e : TypeId} {l : List CK} {o : Nat} {r1 : Bool}, flatK P d e = some l → l.length = P.cellsOf e →
        eqC l ((xs.drop o).take l.length) ((ys.drop o).take l.length) = some r1 →
        ∃ u v, (part e xs.toArray o).run P w = .ok u w ∧ (part e ys.toArray o).run P w = .ok v w ∧ (Op.equalIn (d + D) e u v).run P w = .ok r1 w := by
      intro e l o r1 hf hlen h1
      obtain ⟨de, hue⟩ := flatK_under hf
      obtain ⟨age, hte, _⟩ := tyI_some hue
      have hl1 := eqC_length h1
      rw [hlen] at h1 hl1
      have hone : age = false → P.cellsOf e = 1 := by
        rintro rfl
        rw [← hlen]; exact flat_one hf hte
      obtain ⟨u, hu1, hu2⟩ := part_seg xs o hl1.1 hone
      obtain ⟨v, hv1, hv2⟩ := part_seg ys o hl1.2 hone
      exact ⟨u, v, run_part hte hu1, run_part hte hv1, run_eqC d w D hf hte hu2 hv2 h1⟩
    unfold flatK at h
    split at h
    · rename_i hu
      cases h
      obtain ⟨ag', ht', hag⟩ := tyI_some hu
      rw [hty] at ht'; cases ht'
      have : ag = false := by cases ag <;> simp_all
      subst this
      have hl := eqC_length he
      match xs, ys, hl, hx, hy, he with
      | [a], [b], _, hx, hy, he =>
        cases a <;> cases b <;> simp only [eqC, reduceCtorEq] at he
        simp only [ofCells, Option.some.injEq] at hx hy
        subst hx; subst hy
        simp only [Option.map_some, Bool.and_true, Option.some.injEq] at he
        subst he
        exact run_equalIn_bool' w _ t _ _ hu
    · rename_i k hu
      cases h
      obtain ⟨ag', ht', hag⟩ := tyI_some hu
      rw [hty] at ht'; cases ht'
      have : ag = false := by cases ag <;> simp_all
      subst this
      have hl := eqC_length he
      match xs, ys, hl, hx, hy, he with
      | [a], [b], _, hx, hy, he =>
        cases a <;> cases b <;> simp only [eqC, reduceCtorEq] at he
        simp only [ofCells, Option.some.injEq] at hx hy
        subst hx; subst hy
        split at he
        · rename_i hk; subst hk
          simp only [Option.map_some, Bool.and_true, Option.some.injEq] at he
          subst he
          exact run_equalIn_int w _ t _ _ _ _ hu
        · cases he
    · rename_i hu
      cases h
      obtain ⟨ag', ht', hag⟩ := tyI_some hu
      rw [hty] at ht'; cases ht'
      have : ag = false := by cases ag <;> simp_all
      subst this
      have hl := eqC_length he
      match xs, ys, hl, hx, hy, he with
      | [a], [b], _, hx, hy, he =>
        cases a <;> cases b <;> simp only [eqC, reduceCtorEq] at he
        simp only [ofCells, Option.some.injEq] at hx hy
        subst hx; subst hy
        simp only [Option.map_some, Bool.and_true, Option.some.injEq] at he
        subst he
        exact run_equalIn_string w _ t _ _ hu
    · rename_i m e hu
      obtain ⟨ag', ht', hag⟩ := tyI_some hu
      rw [hty] at ht'; cases ht'
      have : ag = true := by simp_all
      subst this
      simp only [ofCells, Option.some.injEq] at hx hy
      subst hx; subst hy
      cases hf : flatK P d e with
      | none => simp [hf] at h
      | some l =>
        simp only [hf, Option.bind_some] at h
        split at h
        case isFalse => cases h
        rename_i hlen
        cases h
        obtain ⟨de, hue⟩ := flatK_under hf
        obtain ⟨ie, hie⟩ := info_of_underlying hue
        rw [run_equalIn_array w (d + D) xs.toArray ys.toArray hu hie]
        have key : ∀ (m k : Nat) (r : Bool), eqC ((List.replicate m l).flatten) (xs.drop (k * P.cellsOf e)) (ys.drop (k * P.cellsOf e)) = some r →
            (Op.eqItems (d + D) e (P.cellsOf e) xs.toArray ys.toArray (List.range' k m)).run P w = .ok r w := by
          intro m
          induction m with
          | zero =>
            intro k r h
            have hl := eqC_length h
            simp only [List.replicate_zero, List.flatten_nil, List.length_nil, List.length_eq_zero_iff] at hl
            simp only [List.replicate_zero, List.flatten_nil, hl.1, hl.2, eqC, Option.some.injEq] at h
            subst h
            simp [Op.eqItems]
          | succ m ih =>
            intro k r h
            rw [List.replicate_succ, List.flatten_cons] at h
            obtain ⟨r1, r2, h1, h2, rfl⟩ := eqC_append h
            obtain ⟨u, v, p1, p2, p3⟩ := part1 hf hlen h1
            rw [List.drop_drop, List.drop_drop, hlen, show k * P.cellsOf e + P.cellsOf e = (k + 1) * P.cellsOf e by rw [Nat.succ_mul]] at h2
            have h3 := ih (k + 1) r2 h2
            rw [List.range'_succ]
            simp only [Op.eqItems, Sem.run_bind, p1, p2, p3, Result.andThen_ok]
            cases r1
            · simp
            · simpa using h3
        have := key m 0 r (by simpa using he)
        rw [List.range_eq_range']
        exact this
    · rename_i fs hu
      obtain ⟨ag', ht', hag⟩ := tyI_some hu
      rw [hty] at ht'; cases ht'
      have : ag = true := by simp_all
      subst this
      simp only [ofCells, Option.some.injEq] at hx hy
      subst hx; subst hy
      split at h
      · cases h
      rename_i hst
      have hfs : P.fieldsOf t = fs := by simp [Program.fieldsOf, hu]
      rw [run_equalIn_struct w (d + D) t xs.toArray ys.toArray (by rw [hu, hfs]) (by simpa using hst), hfs]
      have key : ∀ (L : List Field) (o : Nat) (ks : List CK) (r : Bool),
          L.foldr (fun f acc off => if f.name ≠ "_" ∧ f.offset = off then (flatK P d f.type).bind fun l => if l.length = P.cellsOf f.type then (acc (off + l.length)).map (l ++ ·) else none else none) (fun _ => some []) o = some ks →
          eqC ks (xs.drop o) (ys.drop o) = some r → (Op.eqFields (d + D) xs.toArray ys.toArray L).run P w = .ok r w := by
        intro L
        induction L with
        | nil =>
          intro o ks r h he
          simp only [List.foldr_nil, Option.some.injEq] at h
          subst h
          have hl := eqC_length he
          simp only [List.length_nil, List.length_eq_zero_iff] at hl
          simp only [hl.1, hl.2, eqC, Option.some.injEq] at he
          subst he
          simp [Op.eqFields]
        | cons f L ih =>
          intro o ks r h he
          simp only [List.foldr_cons] at h
          split at h
          case isFalse => cases h
          rename_i hname
          cases hf : flatK P d f.type with
          | none => simp [hf] at h
          | some l =>
            simp only [hf, Option.bind_some] at h
            split at h
            case isFalse => cases h
            rename_i hlen
            simp only [Option.map_eq_some_iff] at h
            obtain ⟨ks2, hk2, rfl⟩ := h
            obtain ⟨r1, r2, h1, h2, rfl⟩ := eqC_append he
            obtain ⟨u, v, p1, p2, p3⟩ := part1 hf hlen h1
            rw [List.drop_drop, List.drop_drop] at h2
            have h3 := ih (o + l.length) ks2 r2 hk2 h2
            simp only [Op.eqFields, if_pos hname.1, Sem.run_bind, hname.2, p1, p2, p3, Result.andThen_ok]
            cases r1
            · simp
            · simpa using h3
      exact key fs.toList 0 ks r h (by simpa using he)
    · cases h

def eqV (P : Program) (t : TypeId) (x y : Value) : Option Bool :=
  match x, y with
  | .agg xs, .agg ys => match tyI P t with
    | some (_, true) => if P.eqGuardType P.depth t then none else (flatK P 12 t).bind fun ks => eqC ks xs.toList ys.toList
    | _ => none
  | .bool a, .bool b => match P.underlying t with
    | some .bool => some (a == b)
    | _ => none
  | .slice none _ _, .slice b _ _ => match P.underlying t with
    | some (.slice _) => some b.isNone
    | _ => none
  | .slice _ _ _, .slice none _ _ => match P.underlying t with
    | some (.slice _) => some false
    | _ => none
  | .pointer none, .pointer b => match P.underlying t with
    | some (.pointer _) => some b.isNone
    | _ => none
  | .pointer (some a), .pointer b => match P.underlying t with
    | some (.pointer e) => match b with
      | none => some false
      | some b => if a = b ∧ (P.info? e).isSome = true then some true else none
    | _ => none
  | _, _ => none

theorem run_eq_ptr {P : Program} {w : World} {t e : TypeId} (d : Nat) (b : Option Addr) (hu : P.underlying t = some (.pointer e)) :
    (Op.equalIn (d + 1) t (.pointer none) (.pointer b)).run P w = .ok b.isNone w := by simp [Op.equalIn, run_underlying hu]
theorem run_eq_ptr' {P : Program} {w : World} {t e : TypeId} (d : Nat) (a : Addr) (hu : P.underlying t = some (.pointer e)) :
    (Op.equalIn (d + 1) t (.pointer (some a)) (.pointer none)).run P w = .ok false w := by simp [Op.equalIn, run_underlying hu]
theorem run_eq_ptr2 {P : Program} {w : World} {t e : TypeId} (d : Nat) (a : Addr) (hu : P.underlying t = some (.pointer e)) (hi : (P.info? e).isSome = true) :
    (Op.equalIn (d + 1) t (.pointer (some a)) (.pointer (some a))).run P w = .ok true w := by
  obtain ⟨j, hj⟩ := Option.isSome_iff_exists.1 hi
  simp [Op.equalIn, run_underlying hu, sizeOf, typeInfo, hj, run_sameAddr_same]
theorem run_eq_sl {P : Program} {w : World} {t e : TypeId} (d n c n' c' : Nat) (b : Option Addr) (hu : P.underlying t = some (.slice e)) :
    (Op.equalIn (d + 1) t (.slice none n c) (.slice b n' c')).run P w = .ok b.isNone w := by simp [Op.equalIn, run_underlying hu]
theorem run_eq_sl' {P : Program} {w : World} {t e : TypeId} (d n c n' c' : Nat) (a : Addr) (hu : P.underlying t = some (.slice e)) :
    (Op.equalIn (d + 1) t (.slice (some a) n c) (.slice none n' c')).run P w = .ok false w := by simp [Op.equalIn, run_underlying hu]

theorem run_eqV {P : Program} {w : World} {t : TypeId} {x y : Value} {r : Bool} (h : eqV P t x y = some r) : (Op.equal t x y).run P w = .ok r w := by
  unfold Op.equal Op.maxDepth
  unfold eqV at h
  split at h
  · rename_i xs ys
    split at h
    · rename_i n hty
      split at h
      · cases h
      cases hf : flatK P 12 t with
      | none => simp [hf] at h
      | some ks =>
        simp only [hf, Option.bind_some] at h
        exact run_eqC 12 w 9988 hf hty (xs := xs.toList) (ys := ys.toList) (by simp [ofCells]) (by simp [ofCells]) h
    · cases h
  · split at h
    · rename_i hu; cases h; exact run_equalIn_bool' w _ t _ _ hu
    · cases h
  · split at h
    · rename_i e hu; cases h; exact run_eq_sl 9999 _ _ _ _ _ hu
    · cases h
  · rename_i a n c n' c' hne
    split at h
    · rename_i e hu; cases h
      cases a with
      | none => exact (hne rfl).elim
      | some a => exact run_eq_sl' 9999 _ _ _ _ _ hu
    · cases h
  · split at h
    · rename_i e hu; cases h; exact run_eq_ptr 9999 _ hu
    · cases h
  · split at h
    · rename_i e hu
      split at h
      · cases h; exact run_eq_ptr' 9999 _ hu
      · split at h
        · rename_i hc
          cases h
          obtain ⟨rfl, hi⟩ := hc
          exact run_eq_ptr2 9999 _ hu hi
        · cases h
    · cases h
  · cases h

theorem run_eqGuard_eqV {P : Program} {w : World} (op : BinOp) {t : TypeId} (x y : Operand) {a b : Value} {r : Bool} (h : eqV P t a b = some r) : (eqGuard op t x y a b).run P w = .ok () w := by
  unfold eqV at h
  split at h
  · split at h
    · split at h
      · cases h
      · rename_i hg; exact run_eqGuard_agg w op t x y _ _ (by simpa using hg)
    · cases h
  · exact run_eqGuard_plain op t x y (by simp) (by simp)
  · exact run_eqGuard_plain op t x y (by simp) (by simp)
  · exact run_eqGuard_plain op t x y (by simp) (by simp)
  · exact run_eqGuard_plain op t x y (by simp) (by simp)
  · exact run_eqGuard_plain op t x y (by simp) (by simp)
  · cases h
end Go.Ev
