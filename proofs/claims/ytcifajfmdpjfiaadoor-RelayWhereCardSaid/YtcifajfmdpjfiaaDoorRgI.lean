/- Package ring: DeleteFunc at places. -/
import Derived.Test.YtcifajfmdpjfiaaDoorRgH
namespace Go.Proofs.YtcifajfmdpjfiaaDoor
open Go.RowKit Go.Tum Go.Lib Go.Sort
set_option maxRecDepth 100000
theorem infoPl : (Tryd.prog.info? 103).map (fun i => (i.zero, i.size, i.bytes)) = some (some (.agg #[.int .u64 0, .string ⟨#[]⟩]), 2, 24) := by kernel_rfl
theorem plcs_get (L : List Plc) (i r : Nat) (hr : r < 2) : (plcs L)[i * 2 + r]? = (L[i]?).bind fun x => (pl x)[r]? := flatMap_get pl_len L i r hr
theorem plcs_set (M : List Plc) (i : Nat) (x : Plc) : ((plcs M).set (i * 2) (.int .u64 (x.1 : Int))).set (i * 2 + 1) (ks x.2) = plcs (M.set i x) := by
  apply List.ext_getElem?
  intro t
  have hq : t / 2 * 2 + t % 2 = t := by omega
  have hr : t % 2 < 2 := by omega
  have h1 := plcs_get M (t / 2) (t % 2) hr
  have h2 := plcs_get (M.set i x) (t / 2) (t % 2) hr
  rw [hq] at h1 h2
  rw [h2]
  have hlen := plcs_length M
  by_cases hi : t / 2 = i
  · by_cases hM : i < M.length
    · rw [hi, List.getElem?_set_self hM]
      rcases Nat.mod_two_eq_zero_or_one t with e | e
      · have e2 : t = i * 2 := by omega
        rw [e, List.getElem?_set_ne (by omega), e2, List.getElem?_set_self (by omega)]; rfl
      · have e2 : t = i * 2 + 1 := by omega
        rw [e, e2, List.getElem?_set_self (by simp; omega)]; rfl
    · rw [List.getElem?_eq_none (by simp; omega), List.getElem?_eq_none (by simp; omega)]; rfl
  · rw [List.getElem?_set_ne (by omega), List.getElem?_set_ne (by omega), List.getElem?_set_ne (by omega), h1]
theorem plcs_take (L : List Plc) (i : Nat) : (plcs L).take (i * 2) = plcs (L.take i) := by
  apply List.ext_getElem?
  intro t
  have hq : t / 2 * 2 + t % 2 = t := by omega
  have hr : t % 2 < 2 := by omega
  have h1 := plcs_get L (t / 2) (t % 2) hr
  have h2 := plcs_get (L.take i) (t / 2) (t % 2) hr
  rw [hq] at h1 h2
  rw [h2]
  by_cases ht : t < i * 2
  · rw [List.getElem?_take_of_lt ht, h1, List.getElem?_take_of_lt (by omega)]
  · rw [List.getElem?_eq_none (by simp; omega), List.getElem?_eq_none (by simp; omega)]; rfl
theorem zeroPl (w : World) : (zeroValue 103).run Tryd.prog w = .ok (.agg #[.int .u64 0, .string ⟨#[]⟩]) w := by kernel_rfl
structure DfI (w wr : World) (F : Nat → Prop) (g cap : Nat) (L M : List Plc) (p : Plc → Bool) (bx : Nat) (s : Tx) (i j : Nat) : Prop where
  len : M.length = L.length
  own : Own wr F 103 2 (.slice (some ⟨g, 0, none⟩) L.length cap) L.length (plcs M)
  tk : M.take i = (L.take j).filter p
  dr : M.drop j = L.drop j
  ij : i < j
  hm : Mods F w wr
  box : Cells wr bx 9 #[ks s]
abbrev notOf (s : Tx) : Plc → Bool := fun p => !decide (p.2 = s)
theorem filter_take_next {p : Plc → Bool} {L : List Plc} {j : Nat} {x : Plc} (hx : L[j]? = some x) : (L.take (j + 1)).filter p = (L.take j).filter p ++ if p x = true then [x] else [] := by
  rw [take_nx hx, List.filter_append]
  congr 1
  by_cases h : p x = true <;> simp [h]
end Go.Proofs.YtcifajfmdpjfiaaDoor
