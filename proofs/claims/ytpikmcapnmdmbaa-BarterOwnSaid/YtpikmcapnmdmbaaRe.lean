/-
  Layer 22: what a contract holds is written over.
-/
import Derived.Test.YtpikmcapnmdmbaaRd
namespace Go.Proofs.Ytpikmcapnmdmbaa
open Go.RowKit Go.K
set_option linter.unusedVariables false
set_option linter.unusedSimpArgs false

/-- The wishes of an entry lie in a block that may be written. -/
def WS (S : Nat → Prop) (W : World) (e : Ent) : Prop := e.ws.length = 0 ∨ ∃ g cur, e.wa = some ⟨g, 0, none⟩ ∧ W.heap[g]? = some (.cells cur 3 (0, 0)) ∧ e.ws.length ≤ cur.size ∧ S g ∧ e.ws.length ≤ 17592186043904
/-- The entries, from number j on, lie in a block that may be written. -/
def ES (S : Nat → Prop) (W : World) (ea : Option Addr) (ec : Nat) (es : List Ent) (j : Nat) : Prop :=
  (ea = none ∧ es.length = 0 ∧ ec = 0) ∨ ∃ g cur, ea = some ⟨g, 0, none⟩ ∧ W.heap[g]? = some (.cells cur 48 (0, 0)) ∧ cur.size = ec * 5 ∧ ec ≤ maxLen ∧ es.length ≤ ec ∧ S g ∧ ∀ i (h : i < es.length), j ≤ i → cur[i * 5 + 4]? = some (.slice es[i].wa es[i].ws.length es[i].wc)
theorem WS.only {S T : Nat → Prop} {W W' : World} {e : Ent} (h : WS S W e) (ho : Only T W W') (hT : ∀ g cur, W.heap[g]? = some (.cells cur 3 (0, 0)) → ¬ T g) : WS S W' e := by
  rcases h with h | ⟨g, cur, h1, h2, h3, h4⟩
  · exact .inl h
  · exact .inr ⟨g, cur, h1, ho.row h2 (hT g cur h2), h3, h4⟩
theorem ES.only {S T : Nat → Prop} {W W' : World} {ea : Option Addr} {ec : Nat} {es : List Ent} {j : Nat} (h : ES S W ea ec es j) (ho : Only T W W') (hT : ∀ g cur, W.heap[g]? = some (.cells cur 48 (0, 0)) → ¬ T g) : ES S W' ea ec es j := by
  rcases h with h | ⟨g, cur, h1, h2, h3⟩
  · exact .inl h
  · exact .inr ⟨g, cur, h1, ho.row h2 (hT g cur h2), h3⟩
/-- What a store into the wishes leaves of them. -/
theorem WS.put {S : Nat → Prop} {W W' : World} {e : Ent} {g : Nat} {cur cur' : Array Value} (h : WS S W e) (hr : W.heap[g]? = some (.cells cur 3 (0, 0))) (hp : Put W g (.cells cur' 3 (0, 0)) W') (hs : cur'.size = cur.size) : WS S W' e := by
  rcases h with h | ⟨g', c', h1, h2, h3, h4⟩
  · exact .inl h
  · by_cases hg : g' = g
    · subst hg
      rw [hr] at h2
      injection h2 with h2
      injection h2 with h2
      subst h2
      exact .inr ⟨g', cur', h1, hp.at', by omega, h4⟩
    · exact .inr ⟨g', c', h1, hp.row h2 hg, h3, h4⟩
set_option maxRecDepth 100000 in
set_option maxHeartbeats 4000000 in
theorem spoilt_any (S : Nat → Prop) (c : Con) (w : World) (hm : c.es.length ≤ 2513169434843) (hE : ES S w c.ea c.ec c.es 0) (hW : ∀ e ∈ c.es, WS S w e) :
    Calls Try.prog 43 #[c.agg] w fun r w' => r = .returned (.tuple #[]) ∧ Only S w w' := by
  obtain ⟨n, k, b, d, t, wn, p, r, s, o, ea, ec, es⟩ := c
  simp only at hm hE hW
  unfold Con.agg
  simp only
  have HE := Lib.hid (hE.only (Only.of_below ((Below.refl w.heap.size w).alloc (Nat.le_refl _) (.cells #[.int .i64 n, .int .i64 k, .int .i64 b, .int .i64 d, .int .i64 t, .int .i64 wn, .int .u64 p, .int .u64 r, .int .u64 s, .int .i64 o, .slice ea es.length ec] 45))) (T := fun _ => False) (fun _ _ _ h => h))
  have HW := Lib.hid (fun e he => (hW e he).only (Only.of_below ((Below.refl w.heap.size w).alloc (Nat.le_refl _) (.cells #[.int .i64 n, .int .i64 k, .int .i64 b, .int .i64 d, .int .i64 t, .int .i64 wn, .int .u64 p, .int .u64 r, .int .u64 s, .int .i64 o, .slice ea es.length ec] 45))) (T := fun _ => False) (fun _ _ _ h => h))
  have HO := Lib.hid (Only.of_below (S := S) ((Below.refl w.heap.size w).alloc (Nat.le_refl _) (.cells #[.int .i64 n, .int .i64 k, .int .i64 b, .int .i64 d, .int .i64 t, .int .i64 wn, .int .u64 p, .int .u64 r, .int .u64 s, .int .i64 o, .slice ea es.length ec] 45)))
  clear hE hW
  go_enter Try.func43, Try.ntmps43
  go_wp2
  go_loopw [2, 3] (fun i ii wr => ∃ j : Nat, j ≤ es.length ∧ i = .int .i64 j ∧ Only S w wr ∧
      wr.heap[w.heap.size]? = some (.cells #[.int .i64 n, .int .i64 k, .int .i64 b, .int .i64 d, .int .i64 t, .int .i64 wn, .int .u64 p, .int .u64 r, .int .u64 s, .int .i64 o, .slice ea es.length ec] 45) ∧ ES S wr ea ec es j ∧ ∀ e ∈ es, WS S wr e) (fun i _ _ => es.length - (intOf i).toNat)
  case atStart => exact ⟨0, by omega, rfl, HO.out, alloc_at rfl, HE.out, HW.out⟩
  case round =>
    clear HE HW HO
    obtain ⟨j, hj, rfl, ho, hr, he, hw⟩ := hrel
    have HO := Lib.hid ho
    have HR := Lib.hid hr
    have HE := Lib.hid he
    have HW := Lib.hid hw
    have z1 : wr.cell? ⟨w.heap.size, 10, none⟩ = some (.slice ea es.length ec) := by rw [cell_of_row _ _ _ _ _ _ hr]; rfl
    clear ho hr he hw
    by_cases hlt : j < es.length
    · have t0 : decide ((j : Int) < (es.length : Int)) = true := by simp; omega
      have i1 : (j : Int) < (es.length : Int) := by omega
      have hnd : ∃ g cur, ea = some ⟨g, 0, none⟩ ∧ wr.heap[g]? = some (.cells cur 48 (0, 0)) ∧ cur.size = ec * 5 ∧ ec ≤ maxLen ∧ es.length ≤ ec ∧ S g ∧ ∀ i (h : i < es.length), j ≤ i → cur[i * 5 + 4]? = some (.slice es[i].wa es[i].ws.length es[i].wc) := by
        rcases HE.out with ⟨_, h, _⟩ | h
        · omega
        · exact h
      obtain ⟨g, cur, rfl, hrow, hsz, hcm, hle, hSg, hcur⟩ := hnd
      have HWJ := Lib.hid (HW.out es[j] (List.getElem_mem hlt))
      have HCU := Lib.hid (hcur j hlt (Nat.le_refl _))
      have HCN := Lib.hid (fun i h (hji : j + 1 ≤ i) => hcur i h (by omega))
      have HRW := Lib.hid hrow
      have HGG := Lib.hid (show g ≠ w.heap.size from fun e => by have h1 := HR.out; rw [← e, hrow] at h1; injection h1 with h1; injection h1 with _ h2; exact absurd h2 (by decide))
      have HXM := Lib.hid (List.getElem_mem hlt)
      clear hcur hrow HE
      generalize es[j] = x at HWJ HCU HXM
      obtain ⟨xa, xi, xc, xp, xw, xk, xs⟩ := x
      simp only at HCU
      go_wp2
      go_loopw [3] (fun i wq => ∃ q : Nat, q ≤ xs.length ∧ i = .int .i64 q ∧ Only S w wq ∧
          wq.heap[w.heap.size]? = some (.cells #[.int .i64 n, .int .i64 k, .int .i64 b, .int .i64 d, .int .i64 t, .int .i64 wn, .int .u64 p, .int .u64 r, .int .u64 s, .int .i64 o, .slice (some ⟨g, 0, none⟩) es.length ec] 45) ∧
          wq.heap[g]? = some (.cells cur 48 (0, 0)) ∧ ∀ e ∈ es, WS S wq e) (fun i _ => xs.length - (intOf i).toNat)
      case atStart => exact ⟨0, by omega, rfl, HO.out, HR.out, HRW.out, HW.out⟩
      case round =>
        clear HO HR HRW HW HWJ
        obtain ⟨q, hq, rfl, ho, hr, hrw, hw⟩ := hrel
        have HO := Lib.hid ho
        have HR := Lib.hid hr
        have HRW := Lib.hid hrw
        have HW := Lib.hid hw
        have z1 : wr.cell? ⟨w.heap.size, 10, none⟩ = some (.slice (some ⟨g, 0, none⟩) es.length ec) := by rw [cell_of_row _ _ _ _ _ _ hr]; rfl
        have z2 : wr.cell? ⟨g, j * 5 + 4, none⟩ = some (.slice xw xs.length xk) := by rw [cell_of_row _ _ _ _ _ _ hrw]; exact HCU.out
        clear ho hr hrw hw
        by_cases hlq : q < xs.length
        · have t0 : decide ((q : Int) < (xs.length : Int)) = true := by simp; omega
          have i2 : (q : Int) < (xs.length : Int) := by omega
          have hnd : ∃ gw cw, xw = some ⟨gw, 0, none⟩ ∧ wr.heap[gw]? = some (.cells cw 3 (0, 0)) ∧ xs.length ≤ cw.size ∧ S gw ∧ xs.length ≤ 17592186043904 := by
            rcases HW.out _ HXM.out with h | h
            · simp only at h; omega
            · exact h
          obtain ⟨gw, cw, rfl, hgw, hcw, hSw, hxm⟩ := hnd
          go_wp2_with (refine wpList_store_lit 3 gw q (segA cw.toList q [.int .i64 (-5)]) (.int .i64 (-5)) hgw sz3 (by show q + 1 ≤ cw.size; omega) rfl rfl ?_ ?_ ?_; exact rfl; exact rfl; intro w3 hp3)
          go_roundw
          case rel => exact ⟨q + 1, by omega, by go_num, HO.out.trans hp3.only (fun n hn => .inl (hn ▸ hSw)), hp3.row HR.out (rows_ne HR.out hgw (by decide)), hp3.row HRW.out (rows_ne HRW.out hgw (by decide)),
            fun e he => (HW.out e he).put hgw hp3 (by rw [segA_size _ _ _ (by simp; omega)]; simp)⟩
          case measure => simp [intOf]; omega
        · have t0 : decide ((q : Int) < (xs.length : Int)) = false := by simp; omega
          go_wp2_with (refine wpList_store_lit 48 g (j * 5) (segA cur.toList (j * 5) [.int .i64 (-5), .int .i64 0, .int .u64 0, .int .u64 0, .slice none 0 0]) (.agg #[.int .i64 (-5), .int .i64 0, .int .u64 0, .int .u64 0, .slice none 0 0]) HRW.out szE (by show j * 5 + 5 ≤ cur.size; omega) rfl rfl ?_ ?_ ?_; exact rfl; exact rfl; intro w3 hp3)
          go_roundw
          case rel =>
            refine ⟨j + 1, by omega, by go_num, HO.out.trans hp3.only (fun n hn => .inl (hn ▸ hSg)), hp3.row HR.out (rows_ne HR.out HRW.out (by decide)), .inr ⟨g, _, rfl, hp3.at', ?_, hcm, hle, hSg, ?_⟩, ?_⟩
            · rw [segA_size _ _ _ (by simp; omega)]; simpa using hsz
            · intro i hi hji
              rw [segA_after _ _ _ (by simp; omega) _ (by simp; omega)]
              simpa using HCN.out i hi hji
            · exact fun e he => (HW.out e he).only hp3.only (fun g' cur' hr' e' => rows_ne hr' HRW.out (by decide) e')
          case measure => simp [intOf]; omega
    · have t0 : decide ((j : Int) < (es.length : Int)) = false := by simp; omega
      go_wp2
      exact bodyPost_end (results_none Try.results43 _ _ _) rfl ⟨rfl, HO.out⟩
theorem MarkC.es' {B : Nat} {S : Nat → Prop} {W : World} {m : Con} (h : MarkC B W m) (hS : ∀ k, (Value.slice m.ea (m.es.length + 1) m.ec).ownBlock = some k → S k) : ES S W m.ea m.ec m.es 0 := by
  obtain ⟨g, cap, cur, hv, hg, hr, hle, hcm, hsz, htk⟩ := owns_cases h.row (by omega)
  injection hv with h3 h4 h5
  refine .inr ⟨g, cur, h3, hr, by rw [h5]; exact hsz, by omega, by omega, hS g (by rw [h3]; rfl), fun i hi _ => ?_⟩
  have h6 := eFlat_get (m.es ++ [mk77]) i 4 (by simp; omega) (by omega)
  rw [← htk, List.getElem?_take_of_lt (by omega), Array.getElem?_toList] at h6
  rw [h6, List.getElem_append_left hi]; rfl
theorem MarkC.ws {B : Nat} {S : Nat → Prop} {W : World} {m : Con} (h : MarkC B W m) (hS : ∀ e ∈ m.es, ∀ k, (Value.slice e.wa (e.ws.length + 1) e.wc).ownBlock = some k → S k) : ∀ e ∈ m.es, WS S W e := fun e he => by
  obtain ⟨g, cap, cur, hv, hg, hr, hle, hcm, hsz, htk⟩ := owns_cases (h.ents e he).row (by omega)
  injection hv with h3 h4 h5
  exact .inr ⟨g, cur, h3, hr, by omega, hS e he g (by rw [h3]; rfl), (h.ents e he).mx⟩
/-- Between the block numbers lo and hi. -/
def Rn (lo hi : Nat) (k : Nat) : Prop := lo ≤ k ∧ k < hi
theorem MarkC.rn {B : Nat} {W : World} {m : Con} (h : MarkC B W m) : ∀ k, (Value.slice m.ea (m.es.length + 1) m.ec).ownBlock = some k → Rn B W.heap.size k := fun k hk => h.row.lt k hk
theorem MarkC.rnw {B : Nat} {W : World} {m : Con} (h : MarkC B W m) : ∀ e ∈ m.es, ∀ k, (Value.slice e.wa (e.ws.length + 1) e.wc).ownBlock = some k → Rn B W.heap.size k := fun e he k hk => (h.ents e he).row.lt k hk
end Go.Proofs.Ytpikmcapnmdmbaa
