/-
  Reals: from chapter 3's Ps, what is needed here.
-/
import Derived.Test.YtndhlgbpfkidbaaRPr
import Derived.Test.YtndhlgbpfkidbaaGen
namespace Go.Proofs.Ytndhlgbpfkidbaa.n03
open Go.RowKit Go.K Go.R
set_option linter.unusedVariables false
set_option linter.unusedSimpArgs false
def fv (l : List Nat) : List Value := l.map fun (x : Nat) => Value.float .f32 x
theorem fv_length (l : List Nat) : (fv l).length = l.length := List.length_map ..
theorem fv_at {W : World} {a : Option Addr} {l : List Nat} (h : Sl W a (fv l)) (k : Nat) (hk : k < l.length) : ∃ b o, a = some ⟨b, o, none⟩ ∧ W.cell? ⟨b, o + k, none⟩ = some (.float .f32 l[k]) := by
  obtain ⟨b, o, he, hc⟩ := h (fun e => by have := congrArg List.length e; rw [fv_length] at this; rw [this] at hk; cases hk)
  refine ⟨b, o, he, ?_⟩
  rw [hc k (by rw [fv_length]; exact hk)]
  unfold fv
  rw [List.getElem?_map, List.getElem?_eq_getElem hk]; rfl
/-- The words' sum, in units of 2 ^ -149. -/
def sS (l : List Nat) : Int := (l.map sW).sum
theorem sS_push (l : List Nat) (x : Nat) : sS (l ++ [x]) = sS l + sW x := by unfold sS; simp
theorem addL_rng (L : List Int) (x : Nat) (B : Int) (hl : L.length = 11) (hs : shW x < 255) (hb : ∀ j, -B ≤ L.getD j 0 ∧ L.getD j 0 ≤ B) : ∀ j, -(B + 4294967296) ≤ (addL L x).getD j 0 ∧ (addL L x).getD j 0 ≤ B + 4294967296 := by
  intro j
  have hv := vW_lt x
  have h1 : -4294967296 ≤ loW x ∧ loW x ≤ 4294967296 := by unfold loW; split <;> omega
  have h2 : -4294967296 ≤ hiW x ∧ hiW x ≤ 4294967296 := by unfold hiW; split <;> omega
  have b0 := hb j
  have b1 := hb (shW x / 32)
  have b2 := hb (shW x / 32 + 1)
  unfold addL
  rw [getD_set _ _ _ _ (by rw [List.length_set]; omega), getD_set _ _ _ _ (by omega), getD_set _ _ _ _ (by omega)]
  rw [if_neg (by omega : ¬ shW x / 32 + 1 = shW x / 32)]
  split
  · omega
  · split <;> omega
theorem row_int {W : World} {g : Nat} {L : List Int} {t : TypeId} (h : W.heap[g]? = some (.cells (iL L).toArray t)) (k : Nat) (hk : k < L.length) : W.cell? ⟨g, k, none⟩ = some (.int .i64 (L.getD k 0)) := by
  rw [cell_of_row _ _ _ _ _ _ h]
  simp [iL, List.getElem?_eq_getElem hk]
theorem kind_fin {x : Nat} (h : rg x < 2139095040) : ∃ k : Nat, 3 ≤ k ∧ k ≤ 5 ∧ kindW x = (k : Int) := by
  have hn : nanW x = false := by rw [nanW_rg]; exact decide_eq_false (by omega)
  have hr : rg x = x % 2147483648 := rfl
  rw [hr] at h
  unfold kindW
  rw [hn, if_neg (by decide), if_neg (by omega)]
  by_cases h0 : x % 2147483648 = 0
  · exact ⟨3, by decide, by decide, by rw [if_pos h0]; rfl⟩
  · by_cases h1 : x % 2147483648 < 8388608
    · exact ⟨4, by decide, by decide, by rw [if_neg h0, if_pos h1]; rfl⟩
    · exact ⟨5, by decide, by decide, by rw [if_neg h0, if_neg h1]; rfl⟩
theorem not_gt {x : Nat} (h : rg x < 2139095040) : (FloatKind.f32.format.order x 2139095039 == some Ordering.gt) = false ∧ (FloatKind.f32.format.order x 4286578687 == some Ordering.lt) = false := by
  rw [fin_order h (by decide), fin_order h (by decide)]
  have k1 : key 2139095039 = 2139095039 := by decide
  have k2 : key 4286578687 = -2139095039 := by decide
  rw [k1, k2]
  have h1 : key x ≤ 2139095039 ∧ -2139095039 ≤ key x := by unfold key; split <;> omega
  constructor
  · rcases Int.lt_or_eq_of_le h1.1 with h | h
    · rw [cmp_lt h]; rfl
    · rw [cmp_eq h]; rfl
  · rcases Int.lt_or_eq_of_le h1.2 with h | h
    · rw [cmp_gt h]; rfl
    · rw [cmp_eq h.symm]; rfl
/-- What a walk of Total keeps, i words on. -/
structure TS (w : World) (l : List Nat) (i gs gk : Nat) (L K : List Int) (V : World) : Prop where
  lm : Lm V gs L
  sum : SL L = sS (l.take i)
  rng : ∀ j, -((i : Int) * 4294967296) ≤ L.getD j 0 ∧ L.getD j 0 ≤ (i : Int) * 4294967296
  klen : K.length = 6
  kat : V.heap[gk]? = some (.cells (iL K).toArray 109)
  knan : K.getD 1 0 = 0
  krng : ∀ j, 0 ≤ K.getD j 0 ∧ K.getD j 0 ≤ (i : Int)
  bel : Below w.heap.size w V
theorem TS.below {w V V' : World} {l : List Nat} {i gs gk : Nat} {L K : List Int} (h : TS w l i gs gk L K V) (hb : Below V.heap.size V V') : TS w l i gs gk L K V' :=
  ⟨h.lm.kept hb, h.sum, h.rng, h.klen, row_kept h.kat hb, h.knan, h.krng, h.bel.trans (hb.mono h.bel.size)⟩
def totP (l : List Nat) : Nat := if l.all (fun x => x == 2147483648) then 2147483648 else rV (sS l)
set_option maxRecDepth 100000 in
set_option maxHeartbeats 2000000 in
theorem ptotal_fin (l : List Nat) (ad : Option Addr) (cap : Nat) (w : World) (h0 : 0 < l.length) (hl : l.length < 1000) (hx : ∀ x ∈ l, x < 4294967296 ∧ rg x < 2139095040) (hs : Sl w ad (fv l)) (hlg : (sS l).natAbs.log2 ≤ 270) :
    Calls Try.prog 41 #[.slice ad l.length cap] w fun r w' => r = .returned (.float .f32 (totP l)) ∧ Below w.heap.size w w' := by
  have HS := Lib.hid hs
  have HX := Lib.hid hx
  have HLG := Lib.hid hlg
  have tl : decide ((l.length : Int) > 0) = true := by simp; omega
  clear hs hx hlg
  go_enter Try.func41, Try.ntmps41
  go_upto_region 3 with fail
  have HT0 := Lib.hid (show TS w l 0 w.heap.size (w.heap.size + 1) (List.replicate 11 0) (List.replicate 6 0) ((w.alloc (.cells #[.int .i64 0, .int .i64 0, .int .i64 0, .int .i64 0, .int .i64 0, .int .i64 0, .int .i64 0, .int .i64 0, .int .i64 0, .int .i64 0, .int .i64 0] 108)).alloc (.cells #[.int .i64 0, .int .i64 0, .int .i64 0, .int .i64 0, .int .i64 0, .int .i64 0] 109)) from
    ⟨⟨rfl, alloc_old (alloc_at rfl)⟩, rfl, fun j => by
      have e : (List.replicate 11 (0 : Int)).getD j 0 = 0 := by
        rw [List.getD_eq_getElem?_getD, List.getElem?_replicate]; split <;> rfl
      rw [e]; omega, rfl, alloc_at (by simp), rfl, fun j => by
      have e : (List.replicate 6 (0 : Int)).getD j 0 = 0 := by
        rw [List.getD_eq_getElem?_getD, List.getElem?_replicate]; split <;> rfl
      rw [e]; omega, ((Below.refl _ _).alloc (Nat.le_refl _) _).alloc (by simp) _⟩)
  go_wp2
  go_loopw [5, 6, 7, 9, 15] (fun x5 x6 x7 x9 ii V => ∃ (i : Nat) (L K : List Int) (t : Bool), x5 = .bool false ∧ x6 = .bool false ∧ x7 = .bool t ∧ ii = .int .i64 i ∧ i ≤ l.length ∧ t = (l.take i).all (fun x => x == 2147483648) ∧ TS w l i w.heap.size (w.heap.size + 1) L K V) (fun _ _ _ _ ii _ => l.length - (intOf ii).toNat)
  case atStart => exact ⟨0, _, _, true, rfl, rfl, rfl, rfl, Nat.zero_le _, rfl, HT0.out⟩
  case round =>
    obtain ⟨i, L, K, t, rfl, rfl, rfl, rfl, hi, ht, hts⟩ := hrel
    have HTS := Lib.hid hts
    have HT := Lib.hid ht
    clear hts ht HT0
    by_cases hlt : i < l.length
    · have t0 : decide ((i : Int) < (l.length : Int)) = true := decide_eq_true (by omega)
      have t0n : decide (i < l.length) = true := decide_eq_true hlt
      have i1 : (i : Int) < (l.length : Int) := by omega
      obtain ⟨b, o, rfl, z1⟩ := fv_at (HS.out.kept HTS.out.bel) i hlt
      obtain ⟨hxl, hxf⟩ := HX.out _ (List.getElem_mem hlt)
      have HTK := Lib.hid (List.take_succ_eq_append_getElem hlt)
      generalize l[i] = x at z1 hxl hxf HTK
      obtain ⟨k, hk3, hk5, hkw⟩ := kind_fin hxf
      have HK := Lib.hid (fun W => kind_any x hxl W)
      rw [hkw] at HK
      have hnn : nanW x = false := by rw [nanW_rg]; exact decide_eq_false (by omega)
      have hcx : cleanW x = x := by unfold cleanW; rw [hnn]; rfl
      have HC := Lib.hid (fun W => bits_any x W)
      rw [hcx] at HC
      have HF := Lib.hid (fun W => pfinite_any x hxl W)
      have hfw : finW x = true := decide_eq_true hxf
      rw [hfw] at HF
      obtain ⟨g1, g2⟩ := not_gt hxf
      have hsw : shW x < 255 := by unfold shW; have := pe_le _ hxf; omega
      have HSA := Lib.hid (fun W h1 => sadd_any w.heap.size x L W hxl hxf h1 (fun j => by have := HTS.out.rng j; omega))
      have HRN := Lib.hid (addL_rng L x ((i : Int) * 4294967296) HTS.out.lm.1 hsw HTS.out.rng)
      have HSL := Lib.hid (SL_add L x HTS.out.lm.1 hsw)
      have hkr := HTS.out.krng k
      have z2 := row_int HTS.out.kat k (by rw [HTS.out.klen]; omega)
      have ik : (k : Int) < 6 := by omega
      have HKS := Lib.hid (iL_set K k (K.getD k 0 + 1) (by rw [HTS.out.klen]; omega))
      have HKG := Lib.hid (fun j => getD_set K k j (K.getD k 0 + 1) (by rw [HTS.out.klen]; omega))
      obtain ⟨c, hc⟩ : ∃ c, c = K.getD k 0 := ⟨_, rfl⟩
      obtain ⟨c1, hc1⟩ : ∃ c1, c1 = c + 1 := ⟨_, rfl⟩
      rw [← hc] at z2 hkr HKS HKG
      rw [← hc1] at HKS HKG
      have w1 : IntKind.i64.wrap (c + 1) = c1 := by rw [IntKind.wrap_i64]; omega
      have w2 : IntKind.i64.wrap ((i : Int) + 1) = ((i + 1 : Nat) : Int) := by rw [IntKind.wrap_i64]; omega
      obtain ⟨i2, hi2⟩ : ∃ i2, i2 = i + 1 := ⟨_, rfl⟩
      rw [← hi2] at w2 HTK
      have HI2 := Lib.hid hi2
      have HC1 := Lib.hid (show 0 ≤ c1 ∧ c1 ≤ (i2 : Int) by omega)
      have HK35 := Lib.hid (show 3 ≤ k ∧ k ≤ 5 from ⟨hk3, hk5⟩)
      have HTT := Lib.hid (show (l.take i2).all (fun x => x == 2147483648) = (t && (x == 2147483648)) by rw [HTK.out, List.all_append, ← HT.out]; simp)
      obtain ⟨tx, htx⟩ : ∃ tx, ((x : Int) == 2147483648) = tx := ⟨_, rfl⟩
      have HTX := Lib.hid (show (x == 2147483648) = tx by rw [← htx, Bool.eq_iff_iff, beq_iff_eq, beq_iff_eq]; omega)
      have HKAT := Lib.hid HTS.out.kat
      have HIL := Lib.hid hlt
      clear hlt hi hc hc1 hi2 hk3 hk5 hkw hnn hcx hfw hkr hsw
      have fin : ∀ V1 V2, Put wr (w.heap.size + 1) (.cells (iL (K.set k c1)).toArray 109) V1 → Lm V2 w.heap.size (addL L x) → Only (fun n => n = w.heap.size) V1 V2 → TS w l i2 w.heap.size (w.heap.size + 1) (addL L x) (K.set k c1) V2 := by
        intro V1 V2 hp hl2 ho
        refine ⟨hl2, ?_, ?_, ?_, ?_, ?_, ?_, ?_⟩
        · rw [HSL.out, HTS.out.sum, HTK.out, sS_push]
        · intro j
          have h := HRN.out j
          have e := HI2.out
          have e2 : ((i2 : Int)) * 4294967296 = (i : Int) * 4294967296 + 4294967296 := by omega
          rw [e2]; exact h
        · rw [List.length_set]; exact HTS.out.klen
        · exact ho.row hp.at' (by omega)
        · rw [HKG.out, if_neg (by have := HK35.out; omega)]; exact HTS.out.knan
        · intro j
          rw [HKG.out]
          have h := HTS.out.krng j
          have h2 := HC1.out
          have e := HI2.out
          split
          · exact h2
          · omega
        · have h1 : Below w.heap.size w V1 := hp.below HTS.out.bel HTS.out.bel.size (by omega)
          exact h1.trans (ho.below h1.size (fun k hk => by omega))
      have HFIN := Lib.hid fin
      have HL1 := Lib.hid (fun V1 (hp : Put wr (w.heap.size + 1) (.cells (iL (K.set k c1)).toArray 109) V1) => show Lm V1 w.heap.size L from ⟨HTS.out.lm.1, hp.row HTS.out.lm.2 (by omega)⟩)
      have HKL := Lib.hid (show k + (Value.int .i64 c1).cells.size ≤ (iL K).toArray.size by have h1 := HTS.out.klen; have h2 := HK35.out; show k + 1 ≤ _; simp [iL]; omega)
      clear fin
      cases t
      case false =>
        go_wp2_with (first
          | (go_at_call 42; refine (HK.out _).mono ?_; rintro e w9 ⟨rfl, rfl⟩)
          | ((with_reducible refine at_store_op ?_); refine wpList_store_lit 3 (w.heap.size + 1) k (iL (K.set k c1)).toArray (.int .i64 c1) HKAT.out szI HKL.out rfl HKS.out ?_ ?_ ?_; exact rfl; exact rfl; intro V1 hp1; have HP1 := Lib.hid hp1; clear hp1)
          | (go_at_call 59; refine (HC.out _).mono ?_; rintro e w9 ⟨rfl, rfl⟩)
          | (go_at_call 60; refine (HF.out _).mono ?_; rintro e w9 ⟨rfl, rfl⟩)
          | (go_at_call 61; refine (HSA.out _ (HL1.out _ HP1.out)).mono ?_; rintro e V2 ⟨rfl, hl2, ho2⟩; have HE := Lib.hid (HFIN.out _ _ HP1.out hl2 ho2); clear hl2 ho2))
        go_roundw
        case rel => exact ⟨i2, _, _, false, rfl, rfl, rfl, rfl, by have := HI2.out; have := HIL.out; omega, by rw [HTT.out]; rfl, HE.out⟩
        case measure => have := HI2.out; have := HIL.out; simp [intOf]; omega
      case true =>
        go_wp2_with (first
          | (go_at_call 42; refine (HK.out _).mono ?_; rintro e w9 ⟨rfl, rfl⟩)
          | ((with_reducible refine at_store_op ?_); refine wpList_store_lit 3 (w.heap.size + 1) k (iL (K.set k c1)).toArray (.int .i64 c1) HKAT.out szI HKL.out rfl HKS.out ?_ ?_ ?_; exact rfl; exact rfl; intro V1 hp1; have HP1 := Lib.hid hp1; clear hp1)
          | (go_at_call 59; refine (HC.out _).mono ?_; rintro e w9 ⟨rfl, rfl⟩)
          | (go_at_call 60; refine (HF.out _).mono ?_; rintro e w9 ⟨rfl, rfl⟩)
          | (go_at_call 61; refine (HSA.out _ (HL1.out _ HP1.out)).mono ?_; rintro e V2 ⟨rfl, hl2, ho2⟩; have HE := Lib.hid (HFIN.out _ _ HP1.out hl2 ho2); clear hl2 ho2))
        go_roundw
        case rel => exact ⟨i2, _, _, tx, rfl, rfl, rfl, rfl, by have := HI2.out; have := HIL.out; omega, by rw [HTT.out, HTX.out]; rfl, HE.out⟩
        case measure => have := HI2.out; have := HIL.out; simp [intOf]; omega
    · have t0 : decide ((i : Int) < (l.length : Int)) = false := decide_eq_false (by omega)
      have t0n : decide (i < l.length) = false := decide_eq_false hlt
      have z2 : wr.cell? ⟨w.heap.size + 1, 1, none⟩ = some (.int .i64 0) := by
        rw [row_int HTS.out.kat 1 (by rw [HTS.out.klen]; decide), HTS.out.knan]
      have hta := HT.out
      rw [show i = l.length by omega, List.take_length] at hta
      have hsum := HTS.out.sum
      rw [show i = l.length by omega, List.take_length] at hsum
      have HR := Lib.hid (round_any w.heap.size L wr HTS.out.lm (fun j => by have := HTS.out.rng j; omega) (by rw [hsum]; exact HLG.out))
      rw [hsum] at HR
      have HO := Lib.hid (fun W => of_any 2147483648 W)
      have hcz : cleanW 2147483648 = 2147483648 := by decide
      rw [hcz] at HO
      have HTA := Lib.hid hta
      clear hta hsum hcz hlt hi
      cases t
      case false =>
        have HRES := Lib.hid (show totP l = rV (sS l) by unfold totP; rw [← HTA.out, if_neg (by decide)])
        generalize rV (sS l) = res at *
        go_wp2_with (go_at_call 63; refine HR.out.mono ?_; rintro e w9 ⟨rfl, ho⟩; have HOO := Lib.hid ho; clear ho)
        go_ret
        exact ⟨by rw [HRES.out]; rfl, HTS.out.bel.trans (HOO.out.below HTS.out.bel.size (fun k hk => by omega))⟩
      case true =>
        have HRES := Lib.hid (show totP l = 2147483648 by unfold totP; rw [← HTA.out, if_pos rfl])
        go_wp2_with (go_at_call 62; refine (HO.out _).mono ?_; rintro e w9 ⟨rfl, rfl⟩)
        go_ret
        exact ⟨by rw [HRES.out]; rfl, HTS.out.bel⟩
end Go.Proofs.Ytndhlgbpfkidbaa.n03

