/- RegistryScript, walked. -/
import Derived.Test.YtfgnipcegnoagaaGreatScriptA
namespace Go.Proofs.YtfgnipcegnoagaaGreat
open Go.RowKit Go.MapKept

set_option maxRecDepth 1000000 in
set_option maxHeartbeats 8000000 in
theorem script_walk (w : World) (v : Value) (l : List Act) (h : RowA w v l) (hn : l.length ≤ 9223372036854775807) :
    Calls Tryz.prog 3 #[v] w fun e w' => e = .returned (.bool true) ∧ Fr (fun _ => False) w w' := by
  obtain ⟨p, cap, rfl⟩ := h.shape
  have Hh := Lib.hid h
  have hlv := lives_walk w
  have hlt := fun W (hf : Fr (fun _ => False) w W) => light_walk W _ l (h.kept hf (fun _ _ _ h => h)) hn
  have Hlt := Lib.hid hlt
  clear h hlt
  go_enter Tryz.func3, Tryz.ntmps3
  go_wp2_with (go_at_call 4; refine hlv.mono ?_; rintro e w1 ⟨rfl, fr1⟩)
  refine (Hlt.out w1 fr1).mono ?_
  rintro e w1' ⟨b, rfl, hb, rfl⟩
  clear hlv Hlt
  cases b with
  | false =>
    go_wp2_with fail
    go_ret
    exact ⟨rfl, fr1⟩
  | true =>
    have Hb := Lib.hid (hb rfl)
    clear hb
    go_wp2_with fail
    refine (new_to w1).mono ?_
    rintro e w2 ⟨R, rfl, hR, hg, f2, hk⟩
    go_wp2_with fail
    refine (rnew_walk w2).mono ?_
    rintro e w3 ⟨S, rfl, hS, hS0, f3, hk3⟩
    have hD := duo_made (fr1.trans f2 (fun _ _ h => h)) hR hg (fun k h => Nat.le_trans fr1.size (hk k h)) f3 hS hS0 hk3
    generalize R.rb = rb at *
    generalize S.ob = ob at *
    have HD := Lib.hid hD
    clear hD hR hg f2 hk hS hS0 f3 hk3 fr1
    go_wp2_with fail
    go_loopg [5] l.length (fun gk s wr => ∃ (i : Nat) (R : Rg) (S : Rr), s = .int .i64 i ∧ i ≤ l.length ∧ gk = l.length - i ∧ Duo w wr rb ob i R S [])
    case atStart => exact ⟨0, R, S, rfl, Nat.zero_le _, rfl, HD.out⟩
    case round =>
      clear HD R S
      obtain ⟨i, R, S, rfl, hil, hgk, hD⟩ := hrel
      have Hgk := Lib.hid hgk
      have HD := Lib.hid hD
      clear hD hgk
      by_cases hlt : i < l.length
      · have hlt2 : (i : Int) < (l.length : Int) := by omega
        have ht : l[i]? = some l[i] := List.getElem?_eq_getElem hlt
        generalize l[i] = x at ht
        obtain ⟨b, off, rfl, x1, x2, x3, x4⟩ := (Hh.out.kept HD.out.fr (fun _ _ _ h => h)).at ht
        have Hx := Lib.hid (Hb.out.1 x (List.mem_of_getElem? ht))
        have hll := Hb.out.2
        clear ht
        go_upto_region 10 with fail
        have hD1 := HD.out.alloc (.cells #[.int .i64 x.kind, .string x.client, .string x.name, .int .i64 x.id] 30) (alloc_new _ _)
        generalize wr.alloc (.cells #[.int .i64 x.kind, .string x.client, .string x.name, .int .i64 x.id] 30) = W1 at *
        generalize wr.heap.size = b6 at *
        clear x1 x2 x3 x4 HD
        have c6 := rowC (hD1.prot _ (.head _)).1
        have HD1 := Lib.hid hD1
        clear hD1
        have hpk := fun W => pick_walk x.kind 5 W (by omega) (by omega)
        go_upto_block 2 with (go_at_call 8; refine (hpk _).mono ?_; rintro e w' ⟨rfl, rfl⟩)
        clear hpk c6
        generalize x.kind % 5 = q at *
        refine script_switch HD1.out (by omega) (by have := Hx.out.2; omega) ?_
        intro u7 u8 u9 u10 u11 u12 u13 u42 u43 u44 u45 u46 u47 u48 u49 u50 u51 u52 u53 u54 u55 u56 u57 u58 u59 u60 u61 u62 u63 u64 u65 u66 u67 u68 u69 u70 u71 u72 u73 u74 u75 u76 u77 u78 u79 u80 u81 u82 u83 u84 u85 u86 u87 u88 u89 u90 u91 u92 u93 u94 u95 u96 u97 u98 u99 u100 u101 u102 u103 u104 wc hA
        obtain ⟨rfl, R2, S2, hD2⟩ := hA
        go_step
        refine wp_asThen (script_tail hD2 (by omega) (by have := Hx.out.2; omega) ?_)
        intro v2 v14 v15 v16 v17 v18 v19 v20 v21 v105 v106 v107 v108 v109 v110 v111 v112 v113 v114 v115 v116 v117 v118 v119 v120 v121 v122 v123 v124 v125 v126 v127 v128 v129 v130 v131 v132 v133 v134 v135 v136 v137 v138 v139 v140 v141 v142 v143 v144 v145 v146 v147 v148 v149 v150 v151 v152 v153 v154 v155 v156 v157 v158 v159 v160 v161 v162 v163 v164 v165 v166 v167 v168 v169 v170 v171 v172 v173 v174 v175 v176 v177 v178 v179 v180 v181 v182 v183 v184 v185 v186 v187 v188 v189 v190 v191 v192 v193 v194 v195 v196 v197 v198 v199 v200 v201 v202 v203 v204 v205 v206 v207 v208 wd hR
        have HR := Lib.hid hR
        clear hR hD2
        go_wp2_with fail
        obtain ⟨R3, S3, h3⟩ := HR.out
        go_roundg (l.length - (i + 1))
        case measure => have := Hgk.out; omega
        case rel => exact ⟨i + 1, R3, S3, rfl, by omega, rfl, h3.less⟩
      · have hlt2 : ¬ (i : Int) < (l.length : Int) := by omega
        go_wp2_with fail
        go_ret
        exact ⟨rfl, HD.out.fr⟩
end Go.Proofs.YtfgnipcegnoagaaGreat
