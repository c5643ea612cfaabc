/- Texts of this claim, merged by program: Rp Sa Wc Wd Da Sb We Sf Sg Sc Na Nb. -/
import Derived.Test.YtpcjmmdgopihcaaGreatDoorZfAg
import Derived.Test.YtpcjmmdgopihcaaGreatDoorZfAm
import Derived.Test.YtpcjmmdgopihcaaGreatDoorRows
import Derived.MakeChecks
import Derived.Test.YtpcjmmdgopihcaaGreatDoorZfAe
import Derived.Test.YtpcjmmdgopihcaaGreatDoorZfAc
import Derived.Test.YtpcjmmdgopihcaaGreatDoorZfAf
import Derived.Shelf.Spec.BitsCarry
import Derived.Lib.Mul64
import Derived.Shelf.Bits.Mul64
import Derived.Test.YtpcjmmdgopihcaaGreatDoorZfAd
import Derived.Laws.Strings
import Derived.Laws.Strings2
import Derived.Lib.Repeat
set_option linter.unusedSimpArgs false
set_option linter.unusedVariables false
namespace Go.Ev
theorem trod_int_inv {H : Type} {enc : TypeId × Value → H} {P : Program} {w : World} {base : Nat} {sp : Nat → Bool} {held : Bool} {fuel : Nat} {e : TypeId} {k : IntKind} {cs : List Value} {n : Int} {p : List MemPlace}
    (he : P.underlying e = some (.int k)) (h : DataW.trod enc P w base sp held fuel e cs = some (.lit (.int k n), p)) : cs = [.int k n] := by
  cases fuel with
  | zero => simp [DataW.trod] at h
  | succ f =>
    unfold DataW.trod at h
    rw [he] at h
    split at h <;> first | cases h | skip
    all_goals try (rename_i heq; cases heq)
    all_goals try (split at h <;> first | cases h | skip)
    all_goals first | (rename_i hh; obtain ⟨rfl, _⟩ := hh; rfl) | skip
theorem trod_ints_inv {H : Type} {enc : TypeId × Value → H} {P : Program} {w : World} {base : Nat} {sp : Nat → Bool} {held : Bool} {fuel : Nat} {t e : TypeId} {N : Nat} {k : IntKind} {cs : List Value} {ns : List Int} {p : List MemPlace}
    (ht : P.underlying t = some (.array N e)) (he : P.underlying e = some (.int k)) (hc : P.cellsOf e = 1) (hn : P.cellsOf t = N)
    (h : DataW.trod enc P w base sp held fuel t cs = some (.agg (ns.map fun n => .lit (.int k n)), p)) : cs = ns.map fun n => .int k n := by
  cases fuel with
  | zero => simp [DataW.trod] at h
  | succ f =>
    unfold DataW.trod at h
    rw [ht] at h
    dsimp only at h
    split at h
    case isFalse => cases h
    rename_i hl
    obtain ⟨xs, hxs, hx⟩ := Option.map_eq_some_iff.1 h
    injection hx with hx1 hx2
    injection hx1 with hx1
    have hlen := mapM_some_length hxs
    rw [List.length_range] at hlen
    have hl2 : ns.length = N := by
      have h9 := congrArg List.length hx1
      rw [List.length_map, List.length_map] at h9
      omega
    refine List.ext_getElem (by rw [List.length_map, hl2, hl, hn]) fun i h1 h2 => ?_
    have hiN : i < N := by rw [hl, hn] at h1; exact h1
    have hg := mapM_some_get hxs i i (by simp [hiN])
    have hxi : xs[i]? = some xs[i] := List.getElem?_eq_getElem (by omega)
    rw [hxi, hc, Nat.mul_one] at hg
    have hfst : (xs[i]'(by omega)).1 = .lit (.int k (ns[i]'(by omega))) := by
      have := congrArg (fun l => l[i]?) hx1
      simp only [List.getElem?_map, hxi, List.getElem?_eq_getElem (show i < ns.length by omega), Option.map_some, Option.some.injEq] at this
      exact this
    obtain ⟨q, hq⟩ : ∃ q, xs[i]'(by omega) = (.lit (.int k (ns[i]'(by omega))), q) := ⟨_, Prod.ext hfst rfl⟩
    rw [hq] at hg
    have h3 := trod_int_inv he hg
    have h4 : List.take 1 (List.drop i cs) = [cs[i]] := by
      rw [List.drop_eq_getElem_cons h1]; rfl
    rw [h4] at h3
    injection h3 with h3
    rw [h3, List.getElem_map]
theorem laidVars_mem {P : Program} {w : World} : ∀ {l : List (String × DataW Unit)} {ps : List MemPlace}, DataW.LaidVars P w l ps → ∀ x ∈ l, ∃ g t cs fuel p, P.globalNamed x.1 = some g ∧ (P.globals[g]?).map (·.type) = some t ∧ w.var? P x.1 = some cs ∧ DataW.trod (fun _ => ()) P w 0 (fun _ => true) false fuel t cs.toList = some (x.2, p)
  | [], _, _, x, hx => by cases hx
  | (n, d) :: r, ps, h, x, hx => by
    obtain ⟨g, t, cs, fuel, p, q, h1, h2, h3, h4, h5, -⟩ := h
    rcases List.mem_cons.1 hx with rfl | hx
    · exact ⟨g, t, cs, fuel, p, h1, h2, h3, h4⟩
    · exact laidVars_mem h5 x hx
end Go.Ev
namespace Go.Ev
open Go.ChangeShapes Go.WideShapes Go.ChangeAt Go.RowKit
section
variable {H : Type} {enc : TypeId × Value → H} {P : Program} {w : World} {base : Nat} {spare : Nat → Bool} {held : Bool} {T : TypeId → Prop}
theorem slice_of_cells (K : Kids P T) {d fuel : Nat} {t e : TypeId} {ks : List FK} {cs : List Value} {x : DataW H × List MemPlace} (ht : P.underlying t = some (.slice e)) (hT : T t) (hks : flatT P d e = some ks) (hpos : 0 < P.cellsOf e)
    (hf : DataW.trod enc P w base spare held fuel t cs = some x) : ∃ (p : Option Addr) (len cap : Nat) (f : Nat → List Value), cs = [.slice p len cap] ∧ len ≤ cap ∧ cap ≤ maxLen ∧ (∀ i, i < len → All2 FK.ok ks (f i)) ∧
      (len = 0 ∨ ∃ b o, p = some ⟨b, o, none⟩ ∧ cellsAt (roW w) b o (len * P.cellsOf e) = some ((List.range len).flatMap f)) := by
  obtain ⟨dd, ps⟩ := x
  rcases Deep.open_slice ht hf with ⟨h1, _⟩ | ⟨a', len, cap, m, n, D, Pl, h1, hb, hl, hm, hmm, _, hx⟩
  · exact ⟨none, 0, 0, fun _ => [], h1, Nat.le_refl _, Nat.zero_le _, fun i hi => absurd hi (Nat.not_lt_zero _), .inl rfl⟩
  · have hlm : len ≤ m := by rw [hmm]; split <;> omega
    obtain ⟨f, hf⟩ := Deep.choose_lt (α := List Value) (n := len) (p := fun i cs' => w.cells? base (a'.add (i * P.cellsOf e)) (P.cellsOf e) = some cs' ∧ All2 FK.ok ks cs') fun i hi => by
      obtain ⟨cs', h2, h3⟩ := hx i (by omega)
      exact ⟨cs', h2, flat_of_trod K d (K.slice hT ht) hks h3⟩
    refine ⟨some a', len, cap, f, h1, hl, hm, fun i hi => (hf i hi).2, ?_⟩
    rcases Nat.eq_zero_or_pos len with h0 | h0
    · exact .inl h0
    · obtain ⟨h4, h5⟩ := roW_row f hpos (fun i hi => (hf i hi).1) h0
      refine .inr ⟨a'.block, a'.off, ?_, h5⟩
      rw [← h4]
theorem liR_of_cells (K : Kids P T) {α : Type} {c : α → List Value} {s d fuel : Nat} {t e : TypeId} {ks : List FK} {cs : List Value} {x : DataW H × List MemPlace} (Q : α → Prop) (hc : ∀ cs, All2 FK.ok ks cs → ∃ y, cs = c y ∧ Q y) (ht : P.underlying t = some (.slice e)) (hT : T t) (hks : flatT P d e = some ks) (hpos : 0 < s) (hs : P.cellsOf e = s)
    (hf : DataW.trod enc P w base spare held fuel t cs = some x) : ∃ l p cap, cs = [.slice p l.length cap] ∧ LiR c s (roW w) l (.slice p l.length cap) ∧ l.length ≤ cap ∧ cap ≤ maxLen ∧ ∀ y ∈ l, Q y := by
  obtain ⟨p, len, cap, f, rfl, hl, hm, hf, hcc⟩ := slice_of_cells K ht hT hks (by omega) hf
  by_cases h0 : len = 0
  · subst h0
    exact ⟨[], p, cap, rfl, ⟨p, cap, rfl, .inl rfl⟩, hl, hm, fun y hy => by cases hy⟩
  obtain ⟨y0, _, _⟩ := hc _ (hf 0 (Nat.pos_of_ne_zero h0))
  haveI : Inhabited α := ⟨y0⟩
  obtain ⟨g, hg⟩ := Deep.choose_lt (α := α) (n := len) (p := fun i y => f i = c y ∧ Q y) fun i hi => hc _ (hf i hi)
  refine ⟨(List.range len).map g, p, cap, by simp, ⟨p, cap, by simp, ?_⟩, by simpa using hl, hm, fun y hy => ?_⟩
  · rcases hcc with rfl | ⟨b, o, rfl, hcc⟩
    · exact .inl rfl
    · refine .inr ⟨b, o, rfl, ?_⟩
      rw [hs] at hcc
      simp only [List.length_map, List.length_range]
      rw [hcc, List.flatMap_map, List.flatMap_def, List.flatMap_def]
      congr 2
      exact List.map_congr_left fun i hi => (hg i (List.mem_range.1 hi)).1
  · obtain ⟨i, hi, rfl⟩ := List.mem_map.1 hy
    exact (hg i (List.mem_range.1 hi)).2
end
end Go.Ev
namespace Go.Proofs.YtpcjmmdgopihcaaGreatDoor
open Go Go.Ev Go.Proofs Go.ChangeShapes Go.WideShapes Go.ChangeAt Go.RowKit
set_option maxRecDepth 100000
set_option maxHeartbeats 4000000
theorem r4_cells {cs : List Value} (h : All2 FK.ok [.int .i64, .int .i64, .int .i64, .int .i64] cs) : ∃ x : R4, cs = x.cells ∧ x.In := by
  cases h with
  | cons a0 h =>
    cases h with
    | cons a1 h =>
      cases h with
      | cons a2 h =>
        cases h with
        | cons a3 h =>
          cases h
          obtain ⟨x0, rfl, w0⟩ := a0
          obtain ⟨x1, rfl, w1⟩ := a1
          obtain ⟨x2, rfl, w2⟩ := a2
          obtain ⟨x3, rfl, w3⟩ := a3
          exact ⟨⟨x0, x1, x2, x3⟩, rfl, i64_wf w0, i64_wf w1, i64_wf w2, i64_wf w3⟩
theorem raw4_of {H : Type} {enc : TypeId × Value → H} {W0 : World} {r : Reach} {b0 base : Nat} {spare : Nat → Bool} {held : Bool} {v : Value} {dd : DataW H} {ps : List MemPlace} (hval : Value.okWide Tryz.prog W0 r b0 23 v)
    (h : DataW.Trod enc Tryz.prog W0 base spare held 23 v dd ps) : ∃ l, LiR R4.cells 4 (roW W0) l v ∧ ∀ x ∈ l, x.In := by
  have hu : Tryz.prog.underlying 23 = some (.slice 34) := by kernel_rfl
  obtain ⟨a, len, cap, rfl⟩ := okWide_slice hu hval
  obtain ⟨fuel, hf⟩ := h
  obtain ⟨l, p, k, g, r0, _, _, q⟩ := liR_of_cells kids (c := R4.cells) (s := 4) (d := 8) (e := 34) (ks := [.int .i64, .int .i64, .int .i64, .int .i64]) _ (fun _ => r4_cells) hu (by show _ < _; decide +kernel) (by kernel_rfl) (by decide) (by decide +kernel) hf
  simp only [Value.cells, List.cons.injEq, Value.slice.injEq, and_true] at g
  obtain ⟨rfl, rfl, rfl⟩ := g
  exact ⟨l, r0, q⟩
theorem int4_of {H : Type} {enc : TypeId × Value → H} {W0 : World} {r : Reach} {b0 base : Nat} {spare : Nat → Bool} {held : Bool} {v : Value} {dd : DataW H} {ps : List MemPlace} (hval : Value.okWide Tryz.prog W0 r b0 34 v)
    (h : DataW.Trod enc Tryz.prog W0 base spare held 34 v dd ps) : ∃ w : R4, v = w.v ∧ w.In := by
  obtain ⟨w, hw, hi⟩ := r4_cells (flat_of_Trod kids (d := 8) (ks := [.int .i64, .int .i64, .int .i64, .int .i64]) (by show _ < _; decide +kernel) (by kernel_rfl) h)
  obtain ⟨e, hu⟩ : ∃ e, Tryz.prog.underlying 34 = some (.array 4 e) := ⟨3, by kernel_rfl⟩
  simp only [Value.okWide, hu] at hval
  obtain ⟨cs, rfl, h2, _⟩ := hval
  refine ⟨w, ?_, hi⟩
  show Value.agg cs = .agg w.cells.toArray
  rw [← hw]
  rfl
theorem konR_of {W : World} {laid : List (String × DataW Unit)} (h : laidMetH Tryz.prog laid W) (hp : (laid.all fun x => x.2.handleName?.isNone) = true) (hm : ("railhead/keccak.constants", Rows.laid_railhead_keccak_constants) ∈ laid) : KonR (roW W) := by
  rw [MakeChecks.laidMetH_plain _ _ _ hp] at h
  obtain ⟨ps, h1, -, -⟩ := h
  obtain ⟨g, t, cs, fuel, p, hg, ht, hv, hd⟩ := laidVars_mem h1 _ hm
  have hg0 : Tryz.prog.globalNamed "railhead/keccak.constants" = some 0 := by kernel_rfl
  dsimp only at hg hv hd
  rw [hg0] at hg
  cases hg
  have ht0 : ((Tryz.prog.globals[0]?).map (·.type)) = some 135 := by kernel_rfl
  rw [ht0] at ht
  cases ht
  have hd2 : DataW.trod (fun _ => ()) Tryz.prog W 0 (fun _ => true) false fuel 135 cs.toList = some (.agg ((consK.map (fun n : Nat => (n : Int))).map fun n => .lit (.int .u64 n)), p) := hd
  have hcs := trod_ints_inv (e := 26) (N := 24) (by kernel_rfl) (by kernel_rfl) (by kernel_rfl) (by kernel_rfl) hd2
  unfold World.var? at hv
  rw [hg0] at hv
  simp only [Option.bind_some] at hv
  unfold KonR cellsAt
  cases hh : W.heap[0]? with
  | none => rw [hh] at hv; cases hv
  | some o =>
    have hlt : 0 < W.heap.size := (Array.getElem?_eq_some_iff.1 hh).1
    rw [hh] at hv
    cases o <;> first | cases hv | skip
    rw [roW_find hlt]
    unfold blkE
    rw [hh]
    dsimp only
    rw [hcs, if_pos (Nat.le_refl _)]
    simp only [Nat.sub_self]
    rfl
end Go.Proofs.YtpcjmmdgopihcaaGreatDoor
set_option linter.unusedSimpArgs false
set_option linter.unusedVariables false
namespace Go.Ev
theorem remE_freshN {N : Hp} {e : Ent} (h : freshN N [e]) : remE (N ++ [e]) e.blk = N := by
  induction N with
  | nil => simp [remE]
  | cons x r ih =>
    have : ¬ e.blk = x.blk := h.1.2.1
    simp only [List.cons_append, remE, if_neg this]
    rw [ih h.2]
theorem updE_freshN {N : Hp} {e : Ent} (h : freshN N [e]) (cs : List Value) : updE (N ++ [e]) e.blk cs = N ++ [{ e with cells := cs }] := by
  induction N with
  | nil => simp [updE]
  | cons x r ih =>
    have : ¬ e.blk = x.blk := h.1.2.1
    simp only [List.cons_append, updE, if_neg this]
    rw [ih h.2]
theorem freshN_blk {N : Hp} {e e' : Ent} (hb : e.blk = e'.blk) (h : freshN N [e]) : freshN N [e'] := by
  induction N with
  | nil => trivial
  | cons x r ih =>
    obtain ⟨⟨h1, h2, _⟩, h3⟩ := h
    exact ⟨⟨hb ▸ h1, hb ▸ h2, trivial⟩, ih h3⟩
def idG : List Value → Option Value
  | [x] => some x
  | _ => none
attribute [push_cast] idG
theorem byteV_len (l : List UInt8) : (byteV l).length = l.length := by simp [byteV]
theorem byteV_one (l : List UInt8) : (byteV l).all oneC = true := by simp [byteV, oneC]
theorem byteV_app (l m : List UInt8) : byteV (l ++ m) = byteV l ++ byteV m := by simp [byteV]
end Go.Ev
namespace Go.Proofs.YtpcjmmdgopihcaaGreatDoor
open Go Go.Ev Go.Proofs
set_option maxRecDepth 100000
set_option maxHeartbeats 4000000
theorem noEscape (args : List Value) (v : Value) (h : idG args = some v) : ExtV Tryz.prog 154 args v := by
  unfold idG at h
  split at h
  case h_2 => cases h
  cases h
  intro w
  rw [run_callFunc_extern Tryz.func154 (by kernel_rfl) (by kernel_rfl) (by kernel_rfl) (e := Extern.AbiNoEscape.same) (by kernel_rfl)]
  rw [Lib.run_noEscape]
  rfl
noncomputable def gS : Gam := (addG 154 idG noG)
attribute [push_cast] gS
theorem gS_ok : GamOk Tryz.prog gS := (addX_ok noEscape (noG_ok _))
theorem pk1 : ptrOk Tryz.prog 150 193 152 2 = true := by kernel_rfl
theorem pk2 : ptrOk Tryz.prog 193 150 152 2 = true := by kernel_rfl
theorem pk3 : (Tryz.prog.info? 152).isSome = true := by kernel_rfl
theorem pk4 : usOk Tryz.prog 181 5 = true := by kernel_rfl
attribute [push_cast] pk1 pk2 pk3 pk4
theorem copyCheck_ok (b : Nat) (p v : Value) (hp : p = .pointer none ∨ p = .pointer (some ⟨b, 0, none⟩)) : CallsV Tryz.prog 143 [.pointer (some ⟨b, 0, none⟩)] [⟨b, 0, .cel 152, [p, v]⟩]
    (fun r N => r = .tuple #[] ∧ N = [⟨b, 0, .cel 152, [.pointer (some ⟨b, 0, none⟩), v]⟩]) := by
  rcases hp with rfl | rfl
  · refine callsO gS_ok Tryz.mix Tryz.pl143 Tryz.func143 rfl Tryz.ntmps143 Tryz.results143 rfl (by first | rfl | assumption) (Nat.le_of_ble_eq_true rfl) (by kernel_rfl) ?_
    simp only [push_cast, seval, reduceCtorEq]
    exact ⟨_, List.Sublist.refl _, rfl⟩
  · refine callsO gS_ok Tryz.mix Tryz.pl143 Tryz.func143 rfl Tryz.ntmps143 Tryz.results143 rfl (by first | rfl | assumption) (Nat.le_of_ble_eq_true rfl) (by kernel_rfl) ?_
    simp only [push_cast, seval, reduceCtorEq]
    exact ⟨_, List.Sublist.refl _, rfl⟩
theorem write_ok (b : Nat) (p v : Value) (hp : p = .pointer none ∨ p = .pointer (some ⟨b, 0, none⟩)) (l : List UInt8) (Nv : Hp) (ho : OutC 5 1 (byteV l) l.length v Nv) (hf : freshN Nv [⟨b, 0, .cel 152, [p, v]⟩]) (s : ByteArray) (hlen : l.length + s.size ≤ 140737488355328) :
    CallsV Tryz.prog 122 [.pointer (some ⟨b, 0, none⟩), .string s] (Nv ++ [⟨b, 0, .cel 152, [p, v]⟩])
    (fun r N => r = .tuple #[.int .i64 s.size, .nilIface] ∧ ∃ v' N', OutC 5 1 (byteV (l ++ s.data.toList)) (l ++ s.data.toList).length v' N' ∧ freshN N' [⟨b, 0, .cel 152, [.pointer (some ⟨b, 0, none⟩), v']⟩] ∧ N = N' ++ [⟨b, 0, .cel 152, [.pointer (some ⟨b, 0, none⟩), v']⟩]) := by
  obtain ⟨pa, ca, rfl⟩ := ho.slice
  have fb : findE (Nv ++ [⟨b, 0, .cel 152, [p, .slice pa l.length ca]⟩]) b = some ⟨b, 0, .cel 152, [p, .slice pa l.length ca]⟩ := by
    rw [findE_freshN hf (b := b) (e := ⟨b, 0, .cel 152, [p, .slice pa l.length ca]⟩) (by simp only [push_cast, seval, reduceCtorEq])]; simp only [push_cast, seval, reduceCtorEq]
  have hm : marksOf (Nv ++ [⟨b, 0, .cel 152, [p, .slice pa l.length ca]⟩]) = [] := by rw [marks_append, ho.wr.2]; rfl
  have hsz : s.data.toList.length = s.size := by rw [Array.length_toList]; rfl
  refine callsO gS_ok Tryz.mix Tryz.pl122 Tryz.func122 rfl Tryz.ntmps122 Tryz.results122 rfl (by first | rfl | assumption) (Nat.le_of_ble_eq_true rfl) (by kernel_rfl) ?_
  simp only [push_cast, seval, reduceCtorEq]
  refine CallsV.useM (copyCheck_ok b p (.slice pa l.length ca) hp) fb rfl trivial ?_
  rintro r N ⟨rfl, rfl⟩
  refine ⟨⟨trivial, trivial⟩, rfl, fun hf' => ?_⟩
  rw [show remE (Nv ++ [⟨b, 0, .cel 152, [p, .slice pa l.length ca]⟩]) b = Nv from remE_freshN hf] at hf' ⊢
  simp only [push_cast, seval, reduceCtorEq]
  rw [show (⟨b, 0, .cel 152, [.pointer (some ⟨b, 0, none⟩), .slice pa l.length ca]⟩ :: Nv : Hp) = ⟨b, 0, .cel 152, [.pointer (some ⟨b, 0, none⟩), .slice pa l.length ca]⟩ :: (Nv ++ []) by rw [List.append_nil]]
  refine append_out1 (e := 5) (sz := 1) (by_ := 1) (n := l.length) (m := s.size) (ys := byteV s.data.toList) ho (by rw [List.append_nil]; exact hf'.1) (by simp only [push_cast, seval, reduceCtorEq]) (by simp only [push_cast, seval, reduceCtorEq]) (by rw [byteV_len, hsz, Nat.mul_one]) (byteV_one _) (by unfold two47; omega) fun v' N' ho' hf2 => ?_
  obtain ⟨pb, cb, rfl⟩ := ho'.slice
  have fb' : findE (N' ++ [⟨b, 0, .cel 152, [.pointer (some ⟨b, 0, none⟩), .slice pa l.length ca]⟩]) b = some ⟨b, 0, .cel 152, [.pointer (some ⟨b, 0, none⟩), .slice pa l.length ca]⟩ := by
    rw [findE_freshN hf2 (b := b) (e := ⟨b, 0, .cel 152, [.pointer (some ⟨b, 0, none⟩), .slice pa l.length ca]⟩) (by simp only [push_cast, seval, reduceCtorEq])]; simp only [push_cast, seval, reduceCtorEq]
  have ub : ∀ cs, updE (N' ++ [⟨b, 0, .cel 152, [.pointer (some ⟨b, 0, none⟩), .slice pa l.length ca]⟩]) b cs = N' ++ [⟨b, 0, .cel 152, cs⟩] := fun cs => updE_freshN hf2 cs
  have hm2 : marksOf (N' ++ [⟨b, 0, .cel 152, [.pointer (some ⟨b, 0, none⟩), .slice pb (l.length + s.size) cb]⟩]) = [] := by rw [marks_append, ho'.wr.2]; rfl
  simp only [push_cast, seval, reduceCtorEq, fb', ub]
  refine ⟨N' ++ [⟨b, 0, .cel 152, [.pointer (some ⟨b, 0, none⟩), .slice pb (l.length + s.size) cb]⟩], ?_, .slice pb (l.length + s.size) cb, N', ?_, freshN_blk (by rfl) hf2, rfl⟩
  · rw [dropM_eq hm2]; exact List.Sublist.refl _
  · rw [byteV_app]; simp only [List.length_append, hsz]; exact ho'
def plStr : Plans := fun i => if i = 1 then [(0, 0), (1, 0), (2, 0), (3, 0), (5, 0), (6, 0), (7, 0), (8, 0), (9, 0), (4, 2), (10, 1), (11, 0)] else []
attribute [push_cast] plStr
theorem string_ok (b : Nat) (p v : Value) (l : List UInt8) (hl : l.length < 9223372036854775807) (Nv : Hp) (ho : OutC 5 1 (byteV l) l.length v Nv) (hf : freshN Nv [⟨b, 0, .cel 152, [p, v]⟩]) :
    CallsV Tryz.prog 123 [.pointer (some ⟨b, 0, none⟩)] (Nv ++ [⟨b, 0, .cel 152, [p, v]⟩]) (fun r N => r = .string ⟨l.toArray⟩ ∧ N = []) := by
  rcases ho with ⟨h0, h1, rfl, rfl⟩ | ⟨g, c, h0, rfl, hc, hcl, rfl⟩
  · obtain rfl : l = [] := List.eq_nil_of_length_eq_zero h0
    refine callsO gS_ok Tryz.mix plStr Tryz.func123 rfl Tryz.ntmps123 Tryz.results123 rfl (by first | rfl | assumption) (Nat.le_of_ble_eq_true rfl) (by kernel_rfl) ?_
    simp only [push_cast, seval, reduceCtorEq]
    exact ⟨[], List.nil_sublist _, rfl, rfl⟩
  · simp only [push_cast, seval, reduceCtorEq] at hf
    have c0 : ¬ c = 0 := by omega
    have n0 : ¬ (l.length : Int) = 0 := by omega
    have n1 : (0 : Int) < (l.length : Int) := by omega
    have n2 : (l.length : Int) ≤ 9223372036854775807 := by omega
    have tk : List.take l.length (byteV l) = byteV l := List.take_of_length_le (by rw [byteV_len]; exact Nat.le_refl _)
    refine callsO gS_ok Tryz.mix plStr Tryz.func123 rfl Tryz.ntmps123 Tryz.results123 rfl (by first | rfl | assumption) (Nat.le_of_ble_eq_true rfl) (by kernel_rfl) ?_
    simp only [push_cast, seval, reduceCtorEq, hf, c0, n0, n1, n2, byteV_len, tk]
    exact ⟨[], List.nil_sublist _, rfl⟩
end Go.Proofs.YtpcjmmdgopihcaaGreatDoor
set_option linter.unusedSimpArgs false
set_option linter.unusedVariables false
namespace Go.Ev
open Go.Proofs
noncomputable def addLo : Nat → Nat → Nat → Nat := hid fun x y c => (x + y + c) % 18446744073709551616
theorem addLo_eq (x y c : Nat) : addLo x y c = (x + y + c) % 18446744073709551616 := by unfold addLo; rw [hid_eq]
noncomputable def addC : Nat → Nat → Nat → Nat := hid fun x y c => if 18446744073709551616 ≤ x + y + c then 1 else 0
theorem addC_eq (x y c : Nat) : addC x y c = if 18446744073709551616 ≤ x + y + c then 1 else 0 := by unfold addC; rw [hid_eq]
noncomputable def subLo : Nat → Nat → Nat → Nat := hid fun x y b => (x + 18446744073709551616 - y - b) % 18446744073709551616
theorem subLo_eq (x y b : Nat) : subLo x y b = (x + 18446744073709551616 - y - b) % 18446744073709551616 := by unfold subLo; rw [hid_eq]
noncomputable def subB : Nat → Nat → Nat → Nat := hid fun x y b => if x < y + b then 1 else 0
theorem subB_eq (x y b : Nat) : subB x y b = if x < y + b then 1 else 0 := by unfold subB; rw [hid_eq]
noncomputable def mulLo : Nat → Nat → Nat := hid fun x y => x * y % 18446744073709551616
theorem mulLo_eq (x y : Nat) : mulLo x y = x * y % 18446744073709551616 := by unfold mulLo; rw [hid_eq]
noncomputable def macLo : Nat → Nat → Nat → Nat → Nat := hid fun x y w c => (x * y + w + c) % 18446744073709551616
theorem macLo_eq (x y w c : Nat) : macLo x y w c = (x * y + w + c) % 18446744073709551616 := by unfold macLo; rw [hid_eq]
noncomputable def macHi : Nat → Nat → Nat → Nat → Nat := hid fun x y w c => ((x % 18446744073709551616) * (y % 18446744073709551616) + w % 18446744073709551616 + c % 18446744073709551616) / 18446744073709551616
theorem macHi_eq' (x y w c : Nat) : macHi x y w c = ((x % 18446744073709551616) * (y % 18446744073709551616) + w % 18446744073709551616 + c % 18446744073709551616) / 18446744073709551616 := by unfold macHi; rw [hid_eq]
theorem addLo_lt (x y c : Nat) : addLo x y c < 18446744073709551616 := by rw [addLo_eq]; exact Nat.mod_lt _ (by decide)
theorem subLo_lt (x y c : Nat) : subLo x y c < 18446744073709551616 := by rw [subLo_eq]; exact Nat.mod_lt _ (by decide)
theorem mulLo_lt (x y : Nat) : mulLo x y < 18446744073709551616 := by rw [mulLo_eq]; exact Nat.mod_lt _ (by decide)
theorem macLo_lt (x y w c : Nat) : macLo x y w c < 18446744073709551616 := by rw [macLo_eq]; exact Nat.mod_lt _ (by decide)
theorem addC_le (x y c : Nat) : addC x y c ≤ 1 := by simp only [addC_eq]; split <;> omega
theorem subB_le (x y c : Nat) : subB x y c ≤ 1 := by simp only [subB_eq]; split <;> omega
theorem mul_le {x y : Nat} (hx : x < 18446744073709551616) (hy : y < 18446744073709551616) : x * y ≤ 340282366920938463426481119284349108225 := Nat.mul_le_mul (Nat.le_of_lt_succ hx : x ≤ 18446744073709551615) (Nat.le_of_lt_succ hy : y ≤ 18446744073709551615)
theorem macHi_lt (x y w c : Nat) : macHi x y w c < 18446744073709551616 := by
  have := mul_le (Nat.mod_lt x (by decide : 0 < 18446744073709551616)) (Nat.mod_lt y (by decide : 0 < 18446744073709551616))
  rw [macHi_eq']; omega
theorem mac_lo (x y w c : Nat) : addLo (addLo (mulLo x y) w 0) c 0 = macLo x y w c := by simp only [addLo_eq, mulLo_eq, macLo_eq]; omega
noncomputable def cmpVG : List Value → Option Value
  | [x, y] => (wOf x).bind fun a => (wOf y).bind fun b => some (.int .i64 (a.cmp b))
  | _ => none
attribute [push_cast] cmpVG
theorem cmpVG_some {args : List Value} {v : Value} (h : cmpVG args = some v) : ∃ x y : W, args = [x.v, y.v] ∧ v = .int .i64 (x.cmp y) := by
  unfold cmpVG at h
  split at h
  · rename_i x y
    cases hx : wOf x with
    | none => simp [hx] at h
    | some a =>
      cases hy : wOf y with
      | none => simp [hx, hy] at h
      | some b => simp [hx, hy] at h; exact ⟨a, b, by rw [wOf_some hx, wOf_some hy], h.symm⟩
  · cases h
noncomputable def b64 : Int → Bool := hid fun x => decide (0 ≤ x ∧ x < 18446744073709551616)
theorem b64_eq (x : Int) : b64 x = decide (0 ≤ x ∧ x < 18446744073709551616) := by unfold b64; rw [hid_eq]
theorem b64_lo1 (x y c : Nat) : b64 (addLo x y c : Nat) = true := by have := addLo_lt x y c; simp only [b64_eq]; rw [decide_eq_true_eq]; omega
theorem b64_lo2 (x y c : Nat) : b64 (subLo x y c : Nat) = true := by have := subLo_lt x y c; simp only [b64_eq]; rw [decide_eq_true_eq]; omega
theorem b64_lo3 (x y : Nat) : b64 (mulLo x y : Nat) = true := by have := mulLo_lt x y; simp only [b64_eq]; rw [decide_eq_true_eq]; omega
theorem b64_lo4 (x y w c : Nat) : b64 (macLo x y w c : Nat) = true := by have := macLo_lt x y w c; simp only [b64_eq]; rw [decide_eq_true_eq]; omega
theorem b64_a (w : W) : b64 (w.a : Nat) = true := by have := w.ha; simp only [b64_eq]; rw [decide_eq_true_eq]; omega
theorem b64_b (w : W) : b64 (w.b : Nat) = true := by have := w.hb; simp only [b64_eq]; rw [decide_eq_true_eq]; omega
theorem b64_c (w : W) : b64 (w.c : Nat) = true := by have := w.hc; simp only [b64_eq]; rw [decide_eq_true_eq]; omega
theorem b64_d (w : W) : b64 (w.d : Nat) = true := by have := w.hd; simp only [b64_eq]; rw [decide_eq_true_eq]; omega
theorem b64_0 : b64 0 = true := by rw [b64_eq]; rfl
theorem b64_1 : b64 1 = true := by rw [b64_eq]; rfl
noncomputable def b1 : Int → Bool := hid fun x => decide (0 ≤ x ∧ x ≤ 1)
theorem b1_eq (x : Int) : b1 x = decide (0 ≤ x ∧ x ≤ 1) := by unfold b1; rw [hid_eq]
theorem b1_add (x y c : Nat) : b1 (addC x y c : Nat) = true := by have := addC_le x y c; simp only [b1_eq]; rw [decide_eq_true_eq]; omega
theorem b1_sub (x y c : Nat) : b1 (subB x y c : Nat) = true := by have := subB_le x y c; simp only [b1_eq]; rw [decide_eq_true_eq]; omega
theorem b1_0 : b1 0 = true := by rw [b1_eq]; rfl
theorem b64_hi (x y w c : Nat) : b64 (macHi x y w c : Nat) = true := by
  have := macHi_lt x y w c; simp only [b64_eq]; rw [decide_eq_true_eq]; omega
attribute [push_cast] macHi_lt macLo_lt b64_hi
attribute [push_cast] b64_lo1 b64_lo2 b64_lo3 b64_lo4 b64_a b64_b b64_c b64_d b64_0 b64_1 b1_add b1_sub b1_0 mac_lo
end Go.Ev
namespace Go.Proofs.YtpcjmmdgopihcaaGreatDoor
open Go Go.Ev Go.Proofs
set_option maxRecDepth 100000
set_option maxHeartbeats 4000000
noncomputable def gM : Gam := noG
attribute [push_cast] gM
theorem gM_ok : GamOk Tryz.prog gM := (noG_ok _)
end Go.Proofs.YtpcjmmdgopihcaaGreatDoor
set_option linter.unusedSimpArgs false
set_option linter.unusedVariables false
namespace Go.Ev
theorem W.at0 (x : W) (h : 0 < x.cells.toArray.size) : x.cells.toArray[0]'h = .int .u64 x.a := rfl
theorem W.at1 (x : W) (h : 1 < x.cells.toArray.size) : x.cells.toArray[1]'h = .int .u64 x.b := rfl
theorem W.at2 (x : W) (h : 2 < x.cells.toArray.size) : x.cells.toArray[2]'h = .int .u64 x.c := rfl
theorem W.at3 (x : W) (h : 3 < x.cells.toArray.size) : x.cells.toArray[3]'h = .int .u64 x.d := rfl
theorem indexV_W (P : Program) (t : TypeId) (x : W) (k : IntKind) (i : Int) : indexV P t x.v (.int k i) = (match elemI P t with
  | some (some n, s, ag) => if 0 ≤ i ∧ i < (n : Int) then partL ag x.cells.toArray (i.toNat * s) s else none
  | _ => none) := rfl
theorem W.q0 (x : W) : x.cells.toArray[0]? = some (.int .u64 x.a) := rfl
theorem W.q1 (x : W) : x.cells.toArray[1]? = some (.int .u64 x.b) := rfl
theorem W.q2 (x : W) : x.cells.toArray[2]? = some (.int .u64 x.c) := rfl
theorem W.q3 (x : W) : x.cells.toArray[3]? = some (.int .u64 x.d) := rfl
attribute [push_cast] indexV_W W.at0 W.at1 W.at2 W.at3 W.q0 W.q1 W.q2 W.q3
end Go.Ev
namespace Go.Proofs.YtpcjmmdgopihcaaGreatDoor
open Go Go.Ev Go.Proofs
set_option maxRecDepth 100000
set_option maxHeartbeats 4000000
theorem wordCmpG (args : List Value) (v : Value) (h : cmpVG args = some v) : CallsV Tryz.prog 141 args [] (Ret0 v) := by
  obtain ⟨x, y, rfl, rfl⟩ := cmpVG_some h; exact wordCmp x y
theorem refCmpG (args : List Value) (v : Value) (h : cmpVG args = some v) : CallsV Tryz.prog 61 args [] (Ret0 v) := by
  obtain ⟨x, y, rfl, rfl⟩ := cmpVG_some h; exact refCmp x y
noncomputable def gW : Gam := (addG 141 cmpVG (addG 61 cmpVG gM))
attribute [push_cast] gW
theorem gW_ok : GamOk Tryz.prog gW := (addG_ok wordCmpG (addG_ok refCmpG gM_ok))
theorem wordOf (n : Int) (hn : -9223372036854775808 ≤ n ∧ n ≤ 9223372036854775807) : CallsV Tryz.prog 78 [.int .i64 n] [] (Ret0 (W.ofInt n).v) := by
  obtain ⟨R, hR⟩ : ∃ R, R = W.ofInt n := ⟨_, rfl⟩
  rw [← hR]
  refine callsO gW_ok Tryz.mix Tryz.pl78 Tryz.func78 rfl Tryz.ntmps78 Tryz.results78 rfl (by first | rfl | assumption) (Nat.le_of_ble_eq_true rfl) (by kernel_rfl) ?_
  simp only [push_cast, seval, reduceCtorEq]
  rw [hR]
  rcases Int.lt_or_le n 0 with h | h
  · have e1 : shrI .i64 n 63 = -1 := by
      unfold shrI
      rw [Int.fdiv_eq_ediv_of_nonneg _ (Int.pow_nonneg (by decide))]
      show n / 9223372036854775808 = -1
      omega
    rw [e1, W.ofInt, if_neg (by omega), IntKind.wrap_u64, IntKind.wrap_u64]
    simp only [W.v, W.cells, Value.agg.injEq]
    congr 2
    simp only [Value.int.injEq, true_and]
    omega
  · have e1 : shrI .i64 n 63 = 0 := by
      unfold shrI
      rw [Int.fdiv_eq_ediv_of_nonneg _ (Int.pow_nonneg (by decide))]
      show n / 9223372036854775808 = 0
      omega
    rw [e1, W.ofInt, if_pos h, IntKind.wrap_u64, IntKind.wrap_u64]
    simp only [W.v, W.cells, Value.agg.injEq]
    congr 2
    simp only [Value.int.injEq, true_and]
    omega
end Go.Proofs.YtpcjmmdgopihcaaGreatDoor
set_option linter.unusedSimpArgs false
set_option linter.unusedVariables false
namespace Go.Ev
structure W1 where
  w : W
def W1.cells (x : W1) : List Value := x.w.cells
def W1.num (x : W1) : Nat := x.w.num
structure W8 where
  lo : W
  hi : W
def W8.cells (x : W8) : List Value := x.lo.cells ++ x.hi.cells
def W8.v (x : W8) : Value := .agg x.cells.toArray
def W8.num (x : W8) : Nat := x.lo.num + 115792089237316195423570985008687907853269984665640564039457584007913129639936 * x.hi.num
theorem findE_left {b : Nat} {e : Ent} {B : Hp} : ∀ {A : Hp}, findE A b = some e → findE (A ++ B) b = some e
  | [], h => by simp [findE] at h
  | x :: r, h => by
    simp only [List.cons_append, findE] at h ⊢
    split
    · rename_i hb; rw [if_pos hb] at h; exact h
    · rename_i hb; rw [if_neg hb] at h; exact findE_left h
end Go.Ev
namespace Go.Proofs.YtpcjmmdgopihcaaGreatDoor
open Go Go.Ev Go.Proofs
set_option maxRecDepth 100000
set_option maxHeartbeats 4000000
end Go.Proofs.YtpcjmmdgopihcaaGreatDoor
set_option linter.unusedSimpArgs false
set_option linter.unusedVariables false
namespace Go.Ev
end Go.Ev
namespace Go.Proofs.YtpcjmmdgopihcaaGreatDoor
open Go Go.Ev Go.Proofs
set_option maxRecDepth 100000
set_option maxHeartbeats 4000000
abbrev BldX := { s : Value × Value × Hp // allWr s.2.2 ∧ marksOf s.2.2 = [] }
def bldH (b : Nat) (s : BldX) : Hp := s.1.2.2 ++ [⟨b, 0, .cel 152, [s.1.1, s.1.2.1]⟩]
theorem bldH_wr (b : Nat) (s : BldX) : ∀ e ∈ bldH b s, e.wr := fun e he => by
  rcases List.mem_append.1 he with h | h
  · exact allWr_mem s.2.1 e h
  · rw [List.mem_singleton.1 h]; trivial
theorem bldH_marks (b : Nat) (s : BldX) : marksOf (bldH b s) = [] := by unfold bldH; rw [marks_append, s.2.2]; rfl
end Go.Proofs.YtpcjmmdgopihcaaGreatDoor
set_option linter.unusedSimpArgs false
set_option linter.unusedVariables false
namespace Go.Ev
theorem OutC.pos {e s n : Nat} {cs : List Value} {v : Value} {N : Hp} (h : OutC e s cs n v N) (hn : 0 < n) : ∃ b c, v = .slice (some ⟨b, 0, none⟩) n c ∧ n ≤ c ∧ cs.length = n * s ∧ N = [⟨b, 0, .vec e s c, cs⟩] := by
  rcases h with ⟨rfl, _, _, _⟩ | ⟨b, c, _, h1, h2, h3, h4⟩
  · exact absurd hn (Nat.lt_irrefl 0)
  · exact ⟨b, c, h1, h2, h3, h4⟩
theorem subH_rot {e : Ent} : ∀ {Hc : Hp}, fresh e.blk Hc → subH (e :: Hc) (Hc ++ [e])
  | [], _ => by
    refine ⟨by simp [findE], ?_⟩
    exact trivial
  | x :: r, h => by
    have h1 : ¬ x.blk = e.blk := h.2.1
    refine ⟨by simp [findE, h1], ?_⟩
    have : remE (e :: x :: r) x.blk = e :: r := by simp [remE, h1]
    rw [this]
    exact subH_rot h.2.2
def zs (l : List Int) : List Value := l.map fun x => .int .i64 x
noncomputable def digN : Nat → Nat → Nat := hid fun n j => n / 256 ^ j % 256
theorem digN_eq (n j : Nat) : digN n j = n / 256 ^ j % 256 := by unfold digN; rw [hid_eq]
theorem digN_lt (n j : Nat) : digN n j < 256 := by rw [digN_eq]; omega
def W.part (w : W) : Nat → Nat
  | 0 => w.a
  | 1 => w.b
  | 2 => w.c
  | _ => w.d
end Go.Ev
namespace Go.Ev
theorem digN_part {n p r j : Nat} (h : n / 256 ^ j = p + 18446744073709551616 * r) {k : Nat} (hk : k < 8) : digN n (j + k) = p / 256 ^ k % 256 := by
  rw [digN_eq, Nat.pow_add, ← Nat.div_div_eq_div_mul, h]
  obtain rfl | rfl | rfl | rfl | rfl | rfl | rfl | rfl : k = 0 ∨ k = 1 ∨ k = 2 ∨ k = 3 ∨ k = 4 ∨ k = 5 ∨ k = 6 ∨ k = 7 := by omega
  all_goals simp only [Nat.reducePow]; omega
theorem dig_part (w : W) {i k : Nat} (hi : i < 4) (hk : k < 8) : digN w.num (8 * i + k) = w.part i / 256 ^ k % 256 := by
  have := w.ha; have := w.hb; have := w.hc; have := w.hd
  obtain rfl | rfl | rfl | rfl : i = 0 ∨ i = 1 ∨ i = 2 ∨ i = 3 := by omega
  · exact digN_part (r := w.b + 18446744073709551616 * (w.c + 18446744073709551616 * w.d)) (by unfold W.num W.part; simp only [Nat.reducePow, Nat.reduceMul]; omega) hk
  · exact digN_part (r := w.c + 18446744073709551616 * w.d) (by unfold W.num W.part; simp only [Nat.reducePow, Nat.reduceMul]; omega) hk
  · exact digN_part (r := w.d) (by unfold W.num W.part; simp only [Nat.reducePow, Nat.reduceMul]; omega) hk
  · exact digN_part (r := 0) (by unfold W.num W.part; simp only [Nat.reducePow, Nat.reduceMul]; omega) hk
end Go.Ev
set_option linter.unusedSimpArgs false
set_option linter.unusedVariables false
namespace Go.Ev
theorem updE_left {N Y : Hp} {b : Nat} {e : Ent} (h : freshN N Y) (hf : findE Y b = some e) (cs : List Value) : updE (N ++ Y) b cs = N ++ updE Y b cs := by
  have hm : e ∈ Y ∧ e.blk = b := findE_mem hf
  induction N with
  | nil => rfl
  | cons x r ih =>
    have : ¬ b = x.blk := by
      intro h0
      exact fresh_ne h.1 e hm.1 (hm.2.trans h0)
    simp only [List.cons_append, updE, if_neg this]
    rw [ih h.2]
def byteArgs (l : List UInt8) : List (List Value) := l.map fun x => [.int .u8 (x.toNat : Nat)]
theorem byteV_take (l : List UInt8) {i : Nat} (h : i < l.length) : byteV (l.take (i + 1)) = byteV (l.take i) ++ [.int .u8 (l[i].toNat : Nat)] := by
  unfold byteV
  rw [List.take_succ_eq_append_getElem h, List.map_append]; rfl
abbrev SeqX := { s : Value × Hp // allWr s.2 ∧ marksOf s.2 = [] }
noncomputable def wbytes : W → List UInt8 := hid fun w => (List.range 32).map fun j => UInt8.ofNat (digN w.num (31 - j))
theorem wbytes_eq (w : W) : wbytes w = (List.range 32).map fun j => UInt8.ofNat (digN w.num (31 - j)) := by unfold wbytes; rw [hid_eq]
theorem wbytes_len (w : W) : (wbytes w).length = 32 := by rw [wbytes_eq, List.length_map, List.length_range]
theorem wbytes_at (w : W) {j : Nat} (h : j < 32) : (wbytes w)[j]? = some (UInt8.ofNat (digN w.num (31 - j))) := by
  rw [wbytes_eq, List.getElem?_map, List.getElem?_range h]; rfl
theorem ofNat_dig (n j : Nat) : (UInt8.ofNat (digN n j)).toNat = digN n j := by
  have := digN_lt n j
  simp [Nat.mod_eq_of_lt this]
theorem octet {x r : Nat} (hx : x < 18446744073709551616) (hr : r < 8) : IntKind.u8.wrap (shrI .u64 (x : Int) ((r : Int) * 8)) = ((x / 256 ^ r % 256 : Nat) : Int) := by
  unfold shrI
  rw [show ((r : Int) * 8).toNat = 8 * r by omega, show min (8 * r) IntKind.u64.bits = 8 * r by show min (8 * r) 64 = 8 * r; omega, Int.fdiv_eq_ediv_of_nonneg _ (Int.pow_nonneg (by decide)), IntKind.wrap_u8]
  rw [show (2 : Int) ^ (8 * r) = ((256 ^ r : Nat) : Int) by rw [Int.natCast_pow, Int.pow_mul]; rfl]
  rw [Int.natCast_emod, Int.natCast_ediv]; rfl
end Go.Ev
namespace Go.Proofs.YtpcjmmdgopihcaaGreatDoor
open Go Go.Ev Go.Proofs
set_option maxRecDepth 100000
set_option maxHeartbeats 4000000
def seqH (b : Nat) (s : SeqX) : Hp := s.1.2 ++ [⟨b, 0, .cel 101, [s.1.1]⟩]
theorem seqH_wr (b : Nat) (s : SeqX) : ∀ e ∈ seqH b s, e.wr := fun e he => by
  rcases List.mem_append.1 he with h | h
  · exact allWr_mem s.2.1 e h
  · rw [List.mem_singleton.1 h]; trivial
theorem seqH_marks (b : Nat) (s : SeqX) : marksOf (seqH b s) = [] := by unfold seqH; rw [marks_append, s.2.2]; rfl
theorem appendSeq_ok {gf : FuncId} {caps : List Value} {Hc : Hp} {l : List UInt8} (hit : IterV Tryz.prog gf caps Hc (byteArgs l)) (hmc : marksOf Hc = []) (hl : l.length ≤ 1099511627776) :
    CallsV Tryz.prog 147 [.slice none 0 0, .func (.func gf) #[] caps.toArray] Hc (OutC 5 1 (byteV l) l.length) := by
  refine callsO (noG_ok _) Tryz.mix Tryz.pl147 Tryz.func147 rfl Tryz.ntmps147 Tryz.results147 rfl (by first | rfl | assumption) (Nat.le_of_ble_eq_true rfl) (by kernel_rfl) ?_
  simp only [push_cast, seval, reduceCtorEq]
  intro b2 hb2
  refine rangeO (noG_ok _) (pl := Tryz.pl147) Tryz.mix (Hc := Hc) (Hm := []) hit rfl
    (X := SeqX) (seqH b2)
    (fun k s => OutC 5 1 (byteV (l.take k)) k s.1.1 s.1.2 ∧ freshN s.1.2 [⟨b2, 0, .cel 101, [s.1.1]⟩]) (fun _ _ => False) ⟨(.slice none 0 0, []), trivial, rfl⟩
    ?_ ?_ ?_ ?_ (by simp) (fun s => seqH_marks b2 s) (fun s u e he => .inl (seqH_wr b2 u e he)) ?_ (by kernel_rfl) (by kernel_rfl) (fun _ _ h => h.elim) ?_ ?_ (fun _ _ _ _ h => h.elim)
  · exact ⟨.nil _ _, trivial⟩
  · exact subH_rot hb2
  · show marksOf (_ :: Hc) = _
    simp [marksOf, hmc]
  · exact hmc
  · intro args ha
    obtain ⟨z, _, rfl⟩ := List.mem_map.1 ha
    rfl
  · rintro lo k s args hk hs
    obtain ⟨x, hj, rfl⟩ := Option.map_eq_some_iff.1 ((List.getElem?_map ..).symm.trans hk)
    obtain ⟨hk1, rfl⟩ := List.getElem?_eq_some_iff.1 hj
    obtain ⟨ho, hf⟩ := hs
    obtain ⟨⟨v, N⟩, hN⟩ := s
    dsimp only at ho hf
    have hmk := seqH_marks b2 ⟨(v, N), hN⟩
    obtain ⟨pa, ca, rfl⟩ := ho.slice
    have fb : findE (N ++ [⟨b2, 0, .cel 101, [.slice pa k ca]⟩]) b2 = some ⟨b2, 0, .cel 101, [.slice pa k ca]⟩ := by
      rw [findE_freshN hf (b := b2) (e := ⟨b2, 0, .cel 101, [.slice pa k ca]⟩) (by simp only [push_cast, seval, reduceCtorEq])]; simp only [push_cast, seval, reduceCtorEq]
    generalize hRK : (roundK _ _ _ k : Exit → Tm → Hp → Prop) = RK
    show oC _ _ _ _ _ _ _ (parT 13 _ _ [Value.int .u8 (l[k].toNat : Nat)]) _
    unfold seqH at hmk ⊢
    dsimp only at hmk ⊢
    simp only [push_cast, seval, reduceCtorEq, hmk, fb]
    intro b10 hb10
    refine append_out1 (e := 5) (sz := 1) (by_ := 1) (n := k) (m := 1) (ys := [.int .u8 (l[k].toNat : Nat)]) ho hb10 (by simp only [push_cast, seval, reduceCtorEq]) (by simp only [push_cast, seval, reduceCtorEq]) rfl rfl (by unfold two47; omega) fun v' N' ho' hf' => ?_
    obtain ⟨pb, cb, rfl⟩ := ho'.slice
    have h10 : ¬ b2 = b10 := (fresh_app hb10).2.1
    have fb' : findE (N' ++ [⟨b10, 0, .vec 5 1 1, [.int .u8 (l[k].toNat : Nat)]⟩, ⟨b2, 0, .cel 101, [.slice pa k ca]⟩]) b2 = some ⟨b2, 0, .cel 101, [.slice pa k ca]⟩ := by
      rw [findE_freshN hf' (b := b2) (e := ⟨b2, 0, .cel 101, [.slice pa k ca]⟩) (by simp only [push_cast, seval, reduceCtorEq, h10])]; simp only [push_cast, seval, reduceCtorEq, h10]
    have ub : ∀ cs, updE (N' ++ [⟨b10, 0, .vec 5 1 1, [.int .u8 (l[k].toNat : Nat)]⟩, ⟨b2, 0, .cel 101, [.slice pa k ca]⟩]) b2 cs = N' ++ [⟨b10, 0, .vec 5 1 1, [.int .u8 (l[k].toNat : Nat)]⟩, ⟨b2, 0, .cel 101, cs⟩] := fun cs => by
      rw [updE_left hf' (b := b2) (e := ⟨b2, 0, .cel 101, [.slice pa k ca]⟩) (by simp only [push_cast, seval, reduceCtorEq, h10])]; simp only [push_cast, seval, reduceCtorEq, h10]
    simp only [push_cast, seval, reduceCtorEq, fb', ub]
    rw [← hRK]
    refine ⟨⟨(.slice pb (k + 1) cb, N'), ho'.wr⟩, ⟨?_, freshN_blk (by rfl) (freshN_cons hf')⟩, ?_⟩
    · dsimp only
      rw [byteV_take l hk1]
      exact ho'
    · exact subH_pre (subH_cons (a := ⟨b10, 0, .vec 5 1 1, [.int .u8 (l[k].toNat : Nat)]⟩) (X := [⟨b2, 0, .cel 101, [.slice pb (k + 1) cb]⟩]) ⟨fun h => h10 h.symm, h10, trivial⟩) N'
  · rintro D s hfD hs
    obtain ⟨⟨v, N⟩, hN⟩ := s
    obtain ⟨ho, hf⟩ := hs
    dsimp only at ho hf
    unfold seqH at hfD ⊢
    dsimp only at hfD ⊢
    have hDb : ¬ b2 = D := (fresh_app (A := N) (B := [⟨b2, 0, .cel 101, [v]⟩]) hfD).2.1
    rw [show (byteArgs l).length = l.length by simp [byteArgs], List.take_length] at ho
    obtain ⟨pa, ca, rfl⟩ := ho.slice
    have fb : findE (N ++ [⟨b2, 0, .cel 101, [.slice pa l.length ca]⟩]) b2 = some ⟨b2, 0, .cel 101, [.slice pa l.length ca]⟩ := by
      rw [findE_freshN hf (b := b2) (e := ⟨b2, 0, .cel 101, [.slice pa l.length ca]⟩) (by simp only [push_cast, seval, reduceCtorEq])]; simp only [push_cast, seval, reduceCtorEq]
    have hm : marksOf (N ++ [⟨b2, 0, .cel 101, [.slice pa l.length ca]⟩]) = [] := by rw [marks_append, ho.wr.2]; rfl
    simp only [push_cast, seval, reduceCtorEq, hDb, fb]
    refine ⟨N, ?_, ho⟩
    rw [dropM_eq hm]
    exact List.sublist_append_left _ _
end Go.Proofs.YtpcjmmdgopihcaaGreatDoor
set_option linter.unusedSimpArgs false
set_option linter.unusedVariables false
namespace Go.Ev
noncomputable def wbytesG : List Value → Option Value
  | [x] => (wOf x).bind fun a => some (.string ⟨(wbytes a).toArray⟩)
  | _ => none
attribute [push_cast] wbytesG
end Go.Ev
namespace Go.Proofs.YtpcjmmdgopihcaaGreatDoor
open Go Go.Ev Go.Proofs
set_option maxRecDepth 100000
set_option maxHeartbeats 4000000
theorem collect_ok {gf : FuncId} {caps : List Value} {Hc : Hp} {l : List UInt8} (hit : IterV Tryz.prog gf caps Hc (byteArgs l)) (hmc : marksOf Hc = []) (hro : ∀ e ∈ Hc, e.kind = .ro) (hd : derE Hc Hc) (hl : l.length ≤ 1099511627776) :
    CallsV Tryz.prog 129 [.func (.func gf) #[] caps.toArray] Hc (OutC 5 1 (byteV l) l.length) := by
  refine callsO (noG_ok _) Tryz.mix Tryz.pl129 Tryz.func129 rfl Tryz.ntmps129 Tryz.results129 rfl (by first | rfl | assumption) (Nat.le_of_ble_eq_true rfl) (by kernel_rfl) ?_
  simp only [push_cast, seval, reduceCtorEq]
  refine (appendSeq_ok hit hmc hl).use hd fun v N ho => ⟨ho.wr.1, ho.wr.2, fun hf => ?_⟩
  simp only [push_cast, seval, reduceCtorEq]
  refine ⟨N, ?_, ho⟩
  rw [dropM_eq (by rw [marks_append, ho.wr.2, hmc]; rfl)]
  exact List.sublist_append_left _ _
theorem octets_ok (w : W) : CallsV Tryz.prog 130 [w.v] [] (fun r N => ∃ b1, r = .func (.func 148) #[] #[.pointer (some ⟨b1, 0, none⟩)] ∧ N = [⟨b1, 0, .cel 28, w.cells⟩]) := by
  refine callsO (noG_ok _) Tryz.mix Tryz.pl130 Tryz.func130 rfl Tryz.ntmps130 Tryz.results130 rfl (by first | rfl | assumption) (Nat.le_of_ble_eq_true rfl) (by kernel_rfl) ?_
  simp only [push_cast, seval, reduceCtorEq]
  intro b1
  exact ⟨_, List.Sublist.refl _, b1, rfl, rfl⟩
theorem octIter {Hc : Hp} {w : W} {b1 : Nat} {k1 : Kind} (hmc : marksOf Hc = []) (h1 : findE Hc b1 = some ⟨b1, 0, k1, w.cells⟩) :
    IterV Tryz.prog 148 [.pointer (some ⟨b1, 0, none⟩)] Hc (byteArgs (wbytes w)) := by
  refine ⟨enterO Tryz.func148 rfl rfl, fun X Ho I St l x0 hro hmk h0 hy => ?_⟩
  have hmarks : ∀ x, marksOf (Hc ++ Ho x) = [] := fun x => by rw [marks_append, hmc, hmk]; rfl
  have hm0 := hmarks x0
  have h1' := fun z => findE_left (B := Ho z) h1
  obtain ⟨vs, hvs⟩ : ∃ vs, vs = byteArgs (wbytes w) := ⟨_, rfl⟩
  have hvl : vs.length = 32 := by rw [hvs]; unfold byteArgs; rw [List.length_map, wbytes_len]
  have yl : ∀ (j : Nat) (z : X) (v : Value) (K' : Value → Hp → Prop), j < 32 → v = .int .u8 (digN w.num (31 - j) : Nat) → I j z → (∀ x', I (j + 1) x' → K' (.bool true) (Hc ++ Ho x')) → (∀ x', St x' → K' (.bool false) (Hc ++ Ho x')) → YieldV Tryz.prog l [v] (Hc ++ Ho z) K' := fun j z v K' hj hv hi ht hf => by
    subst hv
    refine (hy j z [.int .u8 (digN w.num (31 - j) : Nat)] (by unfold byteArgs; rw [List.getElem?_map, wbytes_at w hj, Option.map_some, ofNat_dig]) hi).frame ?_ ?_
    · rintro v H' (⟨rfl, x', _, rfl⟩ | ⟨rfl, x', _, rfl⟩) <;> exact hro z x'
    · rintro v H' (⟨rfl, x', h, rfl⟩ | ⟨rfl, x', h, rfl⟩)
      · exact ht x' h
      · exact hf x' h
  have yf : ∀ (x' : X), (I vs.length x' ∨ St x') → ∃ H'_1, List.Sublist H'_1 (dropM (Hc ++ Ho x')) ∧ ∃ z, (I vs.length z ∨ St z) ∧ H'_1 = Ho z := fun x' hst => by
    refine ⟨Ho x', ?_, x', hst, rfl⟩
    rw [dropM_eq (hmarks x')]
    exact List.sublist_append_right _ _
  have ha := w.ha; have hb := w.hb; have hc := w.hc; have hd := w.hd
  rw [← hvs]
  refine callsO (noG_ok _) Tryz.mix Tryz.pl148 Tryz.func148 rfl Tryz.ntmps148 Tryz.results148 rfl (by first | rfl | assumption) (Nat.le_of_ble_eq_true rfl) (by kernel_rfl) ?_
  simp only [push_cast, seval, reduceCtorEq, h1']
  refine loopO (noG_ok _) (pl := Tryz.pl148) Tryz.mix (X := Nat × X)
    (fun s => ([(0, .func (.yield l) #[] #[]), (1, .pointer (some ⟨b1, 0, none⟩)), (3, .int .i64 ((s.1 : Int) - 1))], Hc ++ Ho s.2))
    (fun s => s.1 ≤ 32 ∧ I (32 - s.1) s.2) (fun s => s.1) (32, x0) ?_ ?_ (by kernel_rfl) ?_
  · exact ⟨Nat.le_refl _, h0⟩
  · simp only [push_cast, seval, reduceCtorEq, hm0, subH_self]
    done
  · rintro ⟨s, z⟩ ⟨hi, hI⟩
    dsimp only at hi hI ⊢
    rcases Nat.eq_zero_or_pos s with rfl | hs
    · simp only [push_cast, seval, reduceCtorEq, h1']
      exact yf z (.inl (by rw [hvl]; exact hI))
    · obtain ⟨i, rfl⟩ : ∃ i, s = i + 1 := ⟨s - 1, by omega⟩
      have ej : ((i + 1 : Nat) : Int) - 1 = (i : Int) := by omega
      have i0 : (0 : Int) ≤ (i : Int) := by omega
      rw [ej]
      obtain ⟨p, hp⟩ : ∃ p, p = i / 8 := ⟨_, rfl⟩
      obtain ⟨r, hr⟩ : ∃ r, r = i % 8 := ⟨_, rfl⟩
      have ep : (i : Int).tdiv 8 = (p : Int) := by rw [hp]; rfl
      have er : (i : Int).tmod 8 = (r : Int) := by rw [hr]; rfl
      have hdg := dig_part w (i := p) (k := r) (by omega) (by omega)
      rw [show 8 * p + r = i by omega] at hdg
      have hoc : ∀ x, w.part p = x → x < 18446744073709551616 → IntKind.u8.wrap (shrI .u64 (x : Int) ((r : Int) * 8)) = ((digN w.num i : Nat) : Int) := fun x hx hl => by rw [octet hl (by omega), hdg, hx]
      have hj : 31 - (32 - (i + 1)) = i := by omega
      have rn : ¬ (r : Int) * 8 < 0 := by omega
      obtain rfl | rfl | rfl | rfl : p = 0 ∨ p = 1 ∨ p = 2 ∨ p = 3 := by omega
      · have ho := hoc w.a rfl ha
        simp only [push_cast, seval, reduceCtorEq, h1', i0, ep, er, rn, ho, wrap_i64' (show -9223372036854775808 ≤ (r : Int) * 8 ∧ (r : Int) * 8 ≤ 9223372036854775807 by omega)]
        refine yl (32 - (i + 1)) z _ _ (by omega) (by rw [hj]) hI (fun x' hx' => ?_) (fun x' hx' => ?_)
        · simp only [push_cast, seval, reduceCtorEq, wrap_i64' (show -9223372036854775808 ≤ (i : Int) - 1 ∧ (i : Int) - 1 ≤ 9223372036854775807 by omega)]
          exact ⟨(i, x'), ⟨by dsimp only; omega, by dsimp only; rw [show 32 - i = 32 - (i + 1) + 1 by omega]; exact hx'⟩, by dsimp only; omega, ⟨rfl, subH_self _, by simp only [hmarks]⟩⟩
        · simp only [push_cast, seval, reduceCtorEq]
          exact yf x' (.inr hx')
      · have ho := hoc w.b rfl hb
        simp only [push_cast, seval, reduceCtorEq, h1', i0, ep, er, rn, ho, wrap_i64' (show -9223372036854775808 ≤ (r : Int) * 8 ∧ (r : Int) * 8 ≤ 9223372036854775807 by omega)]
        refine yl (32 - (i + 1)) z _ _ (by omega) (by rw [hj]) hI (fun x' hx' => ?_) (fun x' hx' => ?_)
        · simp only [push_cast, seval, reduceCtorEq, wrap_i64' (show -9223372036854775808 ≤ (i : Int) - 1 ∧ (i : Int) - 1 ≤ 9223372036854775807 by omega)]
          exact ⟨(i, x'), ⟨by dsimp only; omega, by dsimp only; rw [show 32 - i = 32 - (i + 1) + 1 by omega]; exact hx'⟩, by dsimp only; omega, ⟨rfl, subH_self _, by simp only [hmarks]⟩⟩
        · simp only [push_cast, seval, reduceCtorEq]
          exact yf x' (.inr hx')
      · have ho := hoc w.c rfl hc
        simp only [push_cast, seval, reduceCtorEq, h1', i0, ep, er, rn, ho, wrap_i64' (show -9223372036854775808 ≤ (r : Int) * 8 ∧ (r : Int) * 8 ≤ 9223372036854775807 by omega)]
        refine yl (32 - (i + 1)) z _ _ (by omega) (by rw [hj]) hI (fun x' hx' => ?_) (fun x' hx' => ?_)
        · simp only [push_cast, seval, reduceCtorEq, wrap_i64' (show -9223372036854775808 ≤ (i : Int) - 1 ∧ (i : Int) - 1 ≤ 9223372036854775807 by omega)]
          exact ⟨(i, x'), ⟨by dsimp only; omega, by dsimp only; rw [show 32 - i = 32 - (i + 1) + 1 by omega]; exact hx'⟩, by dsimp only; omega, ⟨rfl, subH_self _, by simp only [hmarks]⟩⟩
        · simp only [push_cast, seval, reduceCtorEq]
          exact yf x' (.inr hx')
      · have ho := hoc w.d rfl hd
        simp only [push_cast, seval, reduceCtorEq, h1', i0, ep, er, rn, ho, wrap_i64' (show -9223372036854775808 ≤ (r : Int) * 8 ∧ (r : Int) * 8 ≤ 9223372036854775807 by omega)]
        refine yl (32 - (i + 1)) z _ _ (by omega) (by rw [hj]) hI (fun x' hx' => ?_) (fun x' hx' => ?_)
        · simp only [push_cast, seval, reduceCtorEq, wrap_i64' (show -9223372036854775808 ≤ (i : Int) - 1 ∧ (i : Int) - 1 ≤ 9223372036854775807 by omega)]
          exact ⟨(i, x'), ⟨by dsimp only; omega, by dsimp only; rw [show 32 - i = 32 - (i + 1) + 1 by omega]; exact hx'⟩, by dsimp only; omega, ⟨rfl, subH_self _, by simp only [hmarks]⟩⟩
        · simp only [push_cast, seval, reduceCtorEq]
          exact yf x' (.inr hx')
theorem wordBytes (w : W) : CallsV Tryz.prog 105 [w.v] [] (Ret0 (.string ⟨(wbytes w).toArray⟩)) := by
  refine callsO (noG_ok _) Tryz.mix Tryz.pl105 Tryz.func105 rfl Tryz.ntmps105 Tryz.results105 rfl (by first | rfl | assumption) (Nat.le_of_ble_eq_true rfl) (by kernel_rfl) ?_
  simp only [push_cast, seval, reduceCtorEq]
  intro b1
  refine (octets_ok w).use trivial ?_
  rintro r N ⟨b2, rfl, rfl⟩
  refine ⟨⟨trivial, trivial⟩, rfl, fun hf => ?_⟩
  simp only [push_cast, seval, reduceCtorEq] at hf
  simp only [push_cast, seval, reduceCtorEq, hf]
  have hdr : derE [⟨b2, 0, .ro, w.cells⟩] [⟨b2, 0, .ro, w.cells⟩] := by simp only [push_cast, seval, reduceCtorEq]
  refine (collect_ok (l := wbytes w) (octIter (Hc := [⟨b2, 0, .ro, w.cells⟩]) (w := w) (b1 := b2) (k1 := .ro) rfl (by simp [findE])) rfl (by simp) hdr (by rw [wbytes_len]; decide)).use (by simp only [push_cast, seval, reduceCtorEq, hf]) ?_
  rintro v N ho
  refine ⟨ho.wr.1, ho.wr.2, fun hf2 => ?_⟩
  have hw := wbytes_len w
  rw [hw] at ho
  obtain ⟨bz, cz, rfl, hcz, hzl, rfl⟩ := ho.pos (by decide)
  have hbo := bytesOf_byteV (wbytes w)
  have htk : List.take 32 (byteV (wbytes w)) = byteV (wbytes w) := List.take_of_length_le (by rw [byteV_len, hw]; exact Nat.le_refl _)
  have hbl : (byteV (wbytes w)).length = 32 := by rw [byteV_len, hw]
  simp only [push_cast, seval, reduceCtorEq, hf, strOfV, htk, hbl, hbo]
  done
theorem wordBytesG (args : List Value) (v : Value) (h : wbytesG args = some v) : CallsV Tryz.prog 105 args [] (Ret0 v) := by
  unfold wbytesG at h
  split at h
  · rename_i x
    cases hx : wOf x with
    | none => simp [hx] at h
    | some a =>
      simp only [hx, Option.bind_some, Option.some.injEq] at h
      rw [wOf_some hx, ← h]
      exact wordBytes a
  · cases h
end Go.Proofs.YtpcjmmdgopihcaaGreatDoor
set_option linter.unusedSimpArgs false
set_option linter.unusedVariables false
namespace Go.Ev
def bs (l : List UInt8) : ByteArray := ⟨l.toArray⟩
theorem bs_of (b : ByteArray) : ∃ l, b = bs l := ⟨b.data.toList, by unfold bs; simp⟩
theorem bs_size (l : List UInt8) : (bs l).size = l.length := by simp [bs, ByteArray.size]
theorem bs_data (l : List UInt8) : (bs l).data.toList = l := by simp [bs]
theorem bs_toList (l : List UInt8) : (bs l).toList = l := by unfold bs; exact ByteArray.toList_mk l
theorem bs_extract (l : List UInt8) (i j : Nat) : (bs l).extract i j = bs ((l.drop i).take (j - i)) := ByteArray.extract_mk l i j
theorem bs_append (l m : List UInt8) : bs l ++ bs m = bs (l ++ m) := by
  have : (bs l ++ bs m).data = (bs (l ++ m)).data := by rw [ByteArray.data_append]; simp [bs]
  exact congrArg ByteArray.mk this
theorem bs_mk (l : List UInt8) : ({ data := l.toArray } : ByteArray) = bs l := rfl
attribute [push_cast] bs_size bs_data bs_toList bs_extract bs_append
end Go.Ev
namespace Go.Proofs.YtpcjmmdgopihcaaGreatDoor
open Go Go.Ev Go.Proofs
set_option maxRecDepth 100000
set_option maxHeartbeats 4000000
end Go.Proofs.YtpcjmmdgopihcaaGreatDoor
set_option linter.unusedSimpArgs false
set_option linter.unusedVariables false
namespace Go.Ev
inductive It where
  | mk (list : Bool) (bytes : List UInt8) (kids : List It)
def It.list : It → Bool | .mk l _ _ => l
def It.bytes : It → List UInt8 | .mk _ b _ => b
def It.kids : It → List It | .mk _ _ k => k
noncomputable def numL (w : W) : List UInt8 := (wbytes w).dropWhile fun b => b == 0
noncomputable def headL (kind n : Nat) : List UInt8 :=
  if n ≤ 55 then [UInt8.ofNat (kind + n)] else UInt8.ofNat (kind + 55 + (numL (W.ofInt (n : Int))).length) :: numL (W.ofInt (n : Int))
noncomputable def textL (b : List UInt8) : List UInt8 :=
  match b with
  | [c] => if c.toNat < 128 then [c] else headL 128 1 ++ [c]
  | b => headL 128 b.length ++ b
mutual
noncomputable def encL : It → List UInt8
  | .mk true _ ks => headL 192 (encLs ks).length ++ encLs ks
  | .mk false b _ => textL b
noncomputable def encLs : List It → List UInt8
  | [] => []
  | k :: r => encL k ++ encLs r
end
theorem encLs_flat : ∀ ks : List It, encLs ks = (ks.map encL).flatten
  | [] => by simp [encLs]
  | k :: r => by rw [encLs, encLs_flat r]; simp
mutual
def allI : It → Nat → List (Nat × It)
  | .mk l b ks, d => (d, .mk l b ks) :: (if 16 < d then [] else allIs ks (d + 1))
def allIs : List It → Nat → List (Nat × It)
  | [], _ => []
  | k :: r, d => allI k d ++ allIs r d
end
def wfI (y : It) : Bool := if y.list then y.bytes.isEmpty else y.kids.isEmpty
def rightI (x : It) : Bool := decide ((allI x 1).length ≤ 5000) && (allI x 1).all fun p => decide (p.1 ≤ 16) && wfI p.2
inductive Iv where
  | mk (list : Bool) (bytes : List UInt8) (sv : Value) (kids : List Iv)
def Iv.list : Iv → Bool | .mk l _ _ _ => l
def Iv.bytes : Iv → List UInt8 | .mk _ b _ _ => b
def Iv.sv : Iv → Value | .mk _ _ s _ => s
def Iv.kids : Iv → List Iv | .mk _ _ _ k => k
theorem Iv.ind {p : Iv → Prop} (h : ∀ x : Iv, (∀ k ∈ x.kids, p k) → p x) (x : Iv) : p x := h x fun k hk => Iv.ind h k
termination_by SizeOf.sizeOf x
decreasing_by
  cases x with
  | mk l b s ks =>
    have := List.sizeOf_lt_of_mem (show k ∈ ks from hk)
    simp only [Iv.mk.sizeOf_spec]
    omega
mutual
def Iv.it : Iv → It
  | .mk l b _ ks => .mk l b (Iv.its ks)
def Iv.its : List Iv → List It
  | [] => []
  | k :: r => k.it :: Iv.its r
end
theorem Iv.its_map : ∀ ks : List Iv, Iv.its ks = ks.map Iv.it
  | [] => rfl
  | k :: r => by rw [Iv.its, Iv.its_map r]; rfl
theorem Iv.it_list (x : Iv) : x.it.list = x.list := by cases x; simp only [Iv.it]; rfl
theorem Iv.it_bytes (x : Iv) : x.it.bytes = x.bytes := by cases x; simp only [Iv.it]; rfl
theorem Iv.it_kids (x : Iv) : x.it.kids = x.kids.map Iv.it := by cases x; simp only [Iv.it]; exact Iv.its_map _
def Iv.cells (x : Iv) : List Value := [.bool x.list, .string (bs x.bytes), x.sv]
def Iv.v (x : Iv) : Value := .agg #[.bool x.list, .string (bs x.bytes), x.sv]
theorem Iv.len (x : Iv) : x.cells.length = 3 := rfl
mutual
def allV : Iv → Nat → List (Nat × Iv)
  | .mk l b s ks, d => (d, .mk l b s ks) :: (if 16 < d then [] else allVs ks (d + 1))
def allVs : List Iv → Nat → List (Nat × Iv)
  | [], _ => []
  | k :: r, d => allV k d ++ allVs r d
end
mutual
theorem allV_it : ∀ (x : Iv) (d : Nat), (allV x d).map (fun p => (p.1, p.2.it)) = allI x.it d
  | .mk l b s ks, d => by
    rw [allV, Iv.it, allI, List.map_cons]
    by_cases h : 16 < d
    · rw [if_pos h, if_pos h]; simp only [Iv.it]; rfl
    · rw [if_neg h, if_neg h, allVs_it ks (d + 1)]; simp only [Iv.it]
theorem allVs_it : ∀ (ks : List Iv) (d : Nat), (allVs ks d).map (fun p => (p.1, p.2.it)) = allIs (Iv.its ks) d
  | [], d => by rw [allVs, Iv.its, allIs]; rfl
  | k :: r, d => by rw [allVs, Iv.its, allIs, List.map_append, allV_it k d, allVs_it r d]
end
end Go.Ev
set_option linter.unusedSimpArgs false
set_option linter.unusedVariables false
namespace Go.Ev
theorem ncatB (x y : List UInt8) (h : x.length + y.length ≤ 9223372036854775807) : catB (bs x) (bs y) = some (.string (bs (x ++ y))) := by
  unfold catB
  rw [bs_size, bs_size, bs_append, if_neg]
  show ¬ ((x.length + y.length : Nat) : Int) > (9223372036854775807 : Int)
  omega
theorem nbs_idx {l : List UInt8} {i : Nat} (h : i < l.length) : (bs l).data[i]? = some l[i] := by
  show l.toArray[i]? = _
  rw [List.getElem?_toArray, List.getElem?_eq_getElem h]
noncomputable def trimZ : List UInt8 → List UInt8 := hid fun l => l.dropWhile fun b => b == 0
theorem trimZ_eq (l : List UInt8) : trimZ l = l.dropWhile fun b => b == 0 := by unfold trimZ; rw [hid_eq]
theorem trimZ_num (w : W) : trimZ (wbytes w) = numL w := by rw [trimZ_eq]; rfl
theorem dropWhile_le {α : Type} (p : α → Bool) : ∀ l : List α, (l.dropWhile p).length ≤ l.length
  | [] => Nat.le_refl _
  | x :: r => by
    rw [List.dropWhile_cons]
    split
    · exact Nat.le_succ_of_le (dropWhile_le p r)
    · exact Nat.le_refl _
theorem numL_len (w : W) : (numL w).length ≤ 32 := by unfold numL; have := dropWhile_le (fun b : UInt8 => b == 0) (wbytes w); rw [wbytes_len] at this; exact this
noncomputable def rtextG : List Value → Option Value
  | [.string b] => some (.agg #[.bool false, .string b, .slice none 0 0])
  | _ => none
noncomputable def rnumG : List Value → Option Value
  | [x] => (wOf x).bind fun a => some (.agg #[.bool false, .string (bs (numL a)), .slice none 0 0])
  | _ => none
noncomputable def trimZG8 : List Value → Option Value
  | [.string s, .string c] => if c.data.toList = [0] then some (.string (bs (trimZ s.data.toList))) else none
  | _ => none
noncomputable def trimZG1 : List Value → Option Value
  | [.string s, .int .u8 c] => if c = 0 then some (.string (bs (trimZ s.data.toList))) else none
  | _ => none
noncomputable def headK : Int → Int → ByteArray := hid fun k n => bs (headL k.toNat n.toNat)
theorem headK_eq (k n : Nat) : headK (k : Int) (n : Int) = bs (headL k n) := by unfold headK; rw [hid_eq]; rfl
noncomputable def headG : List Value → Option Value
  | [.int .i64 k, .int .i64 n] => if (k = 128 ∨ k = 192) ∧ 0 ≤ n ∧ n ≤ 1099511627776 then some (.string (headK k n)) else none
  | _ => none
def ofNG : List Value → Option Value
  | [.int .i64 n] => if -9223372036854775808 ≤ n ∧ n ≤ 9223372036854775807 then some (W.ofInt n).v else none
  | _ => none
theorem u8_wrapN (m : Nat) : IntKind.u8.wrap (m : Int) = ((UInt8.ofNat m).toNat : Int) := by
  rw [UInt8.toNat_ofNat']
  show ((m : Int)) % 256 = _
  omega
attribute [push_cast] ofNG
attribute [push_cast] rtextG rnumG trimZG8 trimZG1 headG
end Go.Ev
namespace Go.Proofs.YtpcjmmdgopihcaaGreatDoor
open Go Go.Ev Go.Proofs
set_option maxRecDepth 100000
set_option maxHeartbeats 4000000
theorem trim1z_ok (s : ByteArray) : CallsV Tryz.prog 125 [.string s, .int .u8 0] [] (Ret0 (.string (bs (trimZ s.data.toList)))) := by
  obtain ⟨l, rfl⟩ := bs_of s
  rw [bs_data]
  obtain ⟨R, hR⟩ : ∃ R, R = trimZ l := ⟨_, rfl⟩
  rw [← hR]
  refine callsO (noG_ok _) Tryz.mix Tryz.pl125 Tryz.func125 rfl Tryz.ntmps125 Tryz.results125 rfl (by first | rfl | assumption) (Nat.le_of_ble_eq_true rfl) (by kernel_rfl) ?_
  simp only [push_cast, seval, reduceCtorEq]
  refine loopO (noG_ok _) (pl := Tryz.pl125) Tryz.mix (X := List UInt8)
    (fun x => ([(0, .string (bs x)), (1, .int .u8 0)], []))
    (fun x => trimZ x = R) (fun x => x.length) l ?_ ?_ (by kernel_rfl) ?_
  · exact hR.symm
  · simp only [push_cast, seval, reduceCtorEq]
  · intro x hx
    dsimp only at hx ⊢
    cases x with
    | nil =>
      have e : R = [] := by rw [← hx, trimZ_eq]; rfl
      simp only [push_cast, seval, reduceCtorEq, List.length_nil, e]
    | cons y r =>
      obtain ⟨z, hz⟩ : ∃ z, z = y :: r := ⟨_, rfl⟩
      have zl : z.length = r.length + 1 := by rw [hz]; rfl
      have c1 : (0 : Int) < (z.length : Int) := by omega
      have c2 : 0 < z.length := by omega
      have c3 : 1 ≤ z.length := by omega
      have c4 : (1 : Int) ≤ (z.length : Int) := by omega
      have b0 : (bs z).data[0]? = some y := by rw [nbs_idx c2]; subst hz; rfl
      have dr : List.take (z.length - 1) (List.drop 1 z) = r := by rw [hz]; show List.take (r.length + 1 - 1) r = r; exact List.take_of_length_le (by omega)
      rw [← hz] at hx ⊢
      by_cases hy : y = 0
      · have e : ((y.toNat : Int) == 0) = true := by rw [hy]; rfl
        have hx' : trimZ r = R := by rw [← hx, hz, trimZ_eq, trimZ_eq, List.dropWhile_cons, if_pos (by rw [hy]; rfl)]
        simp only [push_cast, seval, reduceCtorEq, c1, c2, c3, c4, b0, e, dr]
        exact ⟨r, hx', by omega, rfl⟩
      · have e : ((y.toNat : Int) == 0) = false := beq_eq_false_iff_ne.2 fun h => hy (UInt8.toNat_inj.1 (show y.toNat = 0 by omega))
        have hx' : z = R := by rw [← hx, hz, trimZ_eq, List.dropWhile_cons, if_neg (by simpa using hy)]
        simp only [push_cast, seval, reduceCtorEq, c1, c2, c3, b0, e]
        rw [hx']
theorem trim1zG_ok (args : List Value) (v : Value) (h : trimZG1 args = some v) : CallsV Tryz.prog 125 args [] (Ret0 v) := by
  unfold trimZG1 at h
  split at h
  · split at h
    · rename_i hc; cases h; rw [hc]; exact trim1z_ok _
    · cases h
  · cases h
noncomputable def gN0 : Gam := (addG 105 wbytesG (addG 125 trimZG1 noG))
attribute [push_cast] gN0
theorem gN0_ok : GamOk Tryz.prog gN0 := (addG_ok wordBytesG (addG_ok trim1zG_ok (noG_ok _)))
attribute [push_cast] gN0
theorem trimz_ok (s : ByteArray) : CallsV Tryz.prog 104 [.string s, .string (bs [0])] [] (Ret0 (.string (bs (trimZ s.data.toList)))) := by
  obtain ⟨l, rfl⟩ := bs_of s
  rw [bs_data]
  have b0 : (bs [0]).data[0]? = some 0 := rfl
  have e0 : (bs [0]).toList = [0] := bs_toList _
  have e1 : ByteArray.toList { data := #[] } = [] := bs_toList []
  have e2 : ([0] : List UInt8).length = 1 := rfl
  have e3 : ((0 : UInt8).toNat : Int) = 0 := rfl
  have e4 : ([0] == ([] : List UInt8)) = false := rfl
  refine callsO gN0_ok Tryz.mix Tryz.pl104 Tryz.func104 rfl Tryz.ntmps104 Tryz.results104 rfl (by first | rfl | assumption) (Nat.le_of_ble_eq_true rfl) (by kernel_rfl) ?_
  cases l with
  | nil =>
    have e5 : (([] : List UInt8) == []) = true := rfl
    have e6 : trimZ [] = [] := by rw [trimZ_eq]; rfl
    simp only [push_cast, seval, reduceCtorEq, e1, e5, e6]
    try rfl
  | cons y r =>
    obtain ⟨z, hz⟩ : ∃ z, z = y :: r := ⟨_, rfl⟩
    have e5 : (z == []) = false := by rw [hz]; rfl
    rw [← hz]
    simp only [push_cast, seval, reduceCtorEq, e1, e2, e3, e4, e5, b0]
theorem trimzG_ok (args : List Value) (v : Value) (h : trimZG8 args = some v) : CallsV Tryz.prog 104 args [] (Ret0 v) := by
  unfold trimZG8 at h
  split at h
  · split at h
    · rename_i s c hc
      cases h
      have : c = bs [0] := by
        obtain ⟨m, rfl⟩ := bs_of c
        rw [bs_data] at hc
        rw [hc]
      rw [this]; exact trimz_ok _
    · cases h
  · cases h
theorem rtext_ok (b : ByteArray) : CallsV Tryz.prog 77 [.string b] [] (Ret0 (.agg #[.bool false, .string b, .slice none 0 0])) := by
  refine callsO gN0_ok Tryz.mix Tryz.pl77 Tryz.func77 rfl Tryz.ntmps77 Tryz.results77 rfl (by first | rfl | assumption) (Nat.le_of_ble_eq_true rfl) (by kernel_rfl) ?_
  simp only [push_cast, seval, reduceCtorEq]
  trace_state
theorem rtextG_ok (args : List Value) (v : Value) (h : rtextG args = some v) : CallsV Tryz.prog 77 args [] (Ret0 v) := by
  unfold rtextG at h
  split at h
  · cases h; exact rtext_ok _
  · cases h
noncomputable def gN1 : Gam := (addG 77 rtextG (addG 104 trimZG8 gN0))
attribute [push_cast] gN1
theorem gN1_ok : GamOk Tryz.prog gN1 := (addG_ok rtextG_ok (addG_ok trimzG_ok gN0_ok))
attribute [push_cast] gN1
theorem rnum_ok (w : W) : CallsV Tryz.prog 75 [w.v] [] (Ret0 (.agg #[.bool false, .string (bs (numL w)), .slice none 0 0])) := by
  have hz := trimZ_num w
  have hd : (bs [0]).data.toList = [0] := bs_data _
  refine callsO gN1_ok Tryz.mix Tryz.pl75 Tryz.func75 rfl Tryz.ntmps75 Tryz.results75 rfl (by first | rfl | assumption) (Nat.le_of_ble_eq_true rfl) (by kernel_rfl) ?_
  simp only [push_cast, seval, reduceCtorEq]
  intro b1 b2 hb2
  simp only [push_cast, seval, reduceCtorEq, hb2, bs_mk, hd, hz]
theorem rnumG_ok (args : List Value) (v : Value) (h : rnumG args = some v) : CallsV Tryz.prog 75 args [] (Ret0 v) := by
  unfold rnumG at h
  split at h
  · rename_i x
    cases hx : wOf x with
    | none => simp [hx] at h
    | some a => simp only [hx, Option.bind_some, Option.some.injEq] at h; rw [wOf_some hx, ← h]; exact rnum_ok a
  · cases h
theorem wordOfNG (args : List Value) (v : Value) (h : ofNG args = some v) : CallsV Tryz.prog 78 args [] (Ret0 v) := by
  unfold ofNG at h
  split at h
  · split at h
    · rename_i n hn; cases h; exact wordOf n hn
    · cases h
  · cases h
noncomputable def gN2 : Gam := (addG 78 ofNG (addG 75 rnumG gN1))
attribute [push_cast] gN2
theorem gN2_ok : GamOk Tryz.prog gN2 := (addG_ok wordOfNG (addG_ok rnumG_ok gN1_ok))
attribute [push_cast] gN2
theorem head_ok (k n : Nat) (hk : k = 128 ∨ k = 192) (hn : n ≤ 1099511627776) : CallsV Tryz.prog 103 [.int .i64 k, .int .i64 n] [] (Ret0 (.string (headK k n))) := by
  rw [headK_eq]
  obtain ⟨R, hR⟩ : ∃ R, R = headL k n := ⟨_, rfl⟩
  rw [← hR]
  unfold headL at hR
  have w0 : IntKind.i64.wrap ((k : Int) + (n : Int)) = ((k + n : Nat) : Int) := by rw [Int.natCast_add]; exact IntWalk.i64_in _ (by omega)
  by_cases hc : n ≤ 55
  · rw [if_pos hc] at hR
    have c1 : (n : Int) ≤ 55 := by omega
    have w1 := u8_wrapN (k + n)
    have hb : bytesOf [.int .u8 ((UInt8.ofNat (k + n)).toNat : Int)] = some [UInt8.ofNat (k + n)] := bytesOf_byteV [UInt8.ofNat (k + n)]
    obtain ⟨c, hc'⟩ : ∃ c, c = UInt8.ofNat (k + n) := ⟨_, rfl⟩
    rw [← hc'] at w1 hb hR
    obtain ⟨m, hm⟩ : ∃ m, m = k + n := ⟨_, rfl⟩
    rw [← hm] at w0 w1
    refine callsO gN2_ok Tryz.mix Tryz.pl103 Tryz.func103 rfl Tryz.ntmps103 Tryz.results103 rfl (by first | rfl | assumption) (Nat.le_of_ble_eq_true rfl) (by kernel_rfl) ?_
    simp only [push_cast, seval, reduceCtorEq, c1, w0, w1, hb]
    rw [hR]; rfl
  · rw [if_neg hc] at hR
    have c1 : ¬ (n : Int) ≤ 55 := by omega
    have nl := numL_len (W.ofInt (n : Int))
    obtain ⟨D, hD⟩ : ∃ D, D = numL (W.ofInt (n : Int)) := ⟨_, rfl⟩
    rw [← hD] at hR nl
    obtain ⟨w, hw⟩ : ∃ w, w = W.ofInt (n : Int) := ⟨_, rfl⟩
    rw [← hw] at hD
    have w1 := u8_wrapN (k + 55 + D.length)
    have hb : bytesOf [.int .u8 ((UInt8.ofNat (k + 55 + D.length)).toNat : Int)] = some [UInt8.ofNat (k + 55 + D.length)] := bytesOf_byteV [UInt8.ofNat (k + 55 + D.length)]
    obtain ⟨c, hc'⟩ : ∃ c, c = UInt8.ofNat (k + 55 + D.length) := ⟨_, rfl⟩
    rw [← hc'] at w1 hb hR
    have w2 : IntKind.i64.wrap ((k : Int) + 55) = (k : Int) + 55 := IntWalk.i64_in _ (by omega)
    have w3 : IntKind.i64.wrap ((k : Int) + 55 + (D.length : Int)) = ((k + 55 + D.length : Nat) : Int) := by
      rw [show (k : Int) + 55 + (D.length : Int) = ((k + 55 + D.length : Nat) : Int) by omega]; exact IntWalk.i64_in _ (by omega)
    obtain ⟨m, hm⟩ : ∃ m, m = k + 55 + D.length := ⟨_, rfl⟩
    rw [← hm] at w1 w3
    have n1 : -9223372036854775808 ≤ (n : Int) := by omega
    have n2 : (n : Int) ≤ 9223372036854775807 := by omega
    have hcat : catB (bs [c]) (bs D) = some (.string (bs R)) := by rw [ncatB [c] D (by show 1 + _ ≤ _; omega), hR]; rfl
    refine callsO gN2_ok Tryz.mix Tryz.pl103 Tryz.func103 rfl Tryz.ntmps103 Tryz.results103 rfl (by first | rfl | assumption) (Nat.le_of_ble_eq_true rfl) (by kernel_rfl) ?_
    simp only [push_cast, seval, reduceCtorEq, c1, n1, n2, ← hw, ← hD, w1, w2, w3, hb, bs_mk, hcat]
theorem headG_ok (args : List Value) (v : Value) (h : headG args = some v) : CallsV Tryz.prog 103 args [] (Ret0 v) := by
  unfold headG at h
  split at h
  · rename_i k n
    split at h
    · rename_i hc
      obtain ⟨h1, h2, h3⟩ := hc
      cases h
      obtain ⟨k', rfl⟩ : ∃ k' : Nat, k = (k' : Int) := ⟨k.toNat, by omega⟩
      obtain ⟨n', rfl⟩ : ∃ n' : Nat, n = (n' : Int) := ⟨n.toNat, by omega⟩
      exact head_ok k' n' (by omega) (by omega)
    · cases h
  · cases h
noncomputable def gN3 : Gam := (addG 103 headG gN2)
attribute [push_cast] gN3
theorem gN3_ok : GamOk Tryz.prog gN3 := (addG_ok headG_ok gN2_ok)
attribute [push_cast] gN3
end Go.Proofs.YtpcjmmdgopihcaaGreatDoor
