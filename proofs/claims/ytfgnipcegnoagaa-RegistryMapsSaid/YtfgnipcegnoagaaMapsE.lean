/- RegistryMaps, walked. -/
import Derived.Test.YtfgnipcegnoagaaMapsD
namespace Go.Proofs.Ytfgnipcegnoagaa
open Go.RowKit Go.MapKept

set_option maxRecDepth 100000 in
set_option maxHeartbeats 8000000 in
theorem maps_walk (w : World) (v : Value) (l : List Act) (h : RowA w v l) (hn : l.length ≤ 9223372036854775807) :
    Calls Try.prog 4 #[v] w fun e w' => e = .returned (.bool true) ∧ Fr (fun _ => False) w w' := by
  obtain ⟨p, cap, rfl⟩ := h.shape
  have Hh := Lib.hid h
  have hlv := lives_walk w
  have hlt := fun W (hf : Fr (fun _ => False) w W) => light_walk W _ l (h.kept hf (fun _ _ _ h => h)) hn
  have Hlt := Lib.hid hlt
  clear h hlt
  go_enter Try.func4, Try.ntmps4
  go_wp2_with (go_at_call 7; refine hlv.mono ?_; rintro e w1 ⟨rfl, fr1⟩)
  refine (Hlt.out w1 fr1).mono ?_
  rintro e w1' ⟨b, rfl, hb, rfl⟩
  clear hlv Hlt
  cases b with
  | false =>
    go_wp2_with fail
    go_ret
    exact ⟨rfl, fr1⟩
  | true =>
    have Hb := Lib.hid (hb rfl)
    clear hb
    go_wp2_with fail
    refine (solo_new w w1 fr1).mono ?_
    rintro e w2 ⟨R, rfl, hR, hg⟩
    generalize R.rb = rb at *
    have HR := Lib.hid hR
    have Hg := Lib.hid hg
    clear hR hg fr1
    go_wp2_with fail
    go_loopg [4] l.length (fun gk s wr => ∃ (i : Nat) (R : Rg), s = .int .i64 i ∧ i ≤ l.length ∧ gk = l.length - i ∧ Solo w wr rb R [] ∧ ∀ c, (R.get c).length ≤ i)
    case atStart => exact ⟨0, R, rfl, Nat.zero_le _, rfl, HR.out, fun c => by rw [Hg.out c]; exact Nat.le_refl _⟩
    case round =>
      clear HR Hg R
      obtain ⟨i, R, rfl, hil, hgk, hR, hlen⟩ := hrel
      have Hgk := Lib.hid hgk
      have HR := Lib.hid hR
      have Hlen := Lib.hid hlen
      clear hR hlen hgk
      by_cases hlt : i < l.length
      · have hlt2 : (i : Int) < (l.length : Int) := by omega
        have ht : l[i]? = some l[i] := List.getElem?_eq_getElem hlt
        generalize l[i] = x at ht
        obtain ⟨b, off, rfl, x1, x2, x3, x4⟩ := (Hh.out.kept HR.out.fr (fun _ _ _ h => h)).at ht
        have Hx := Lib.hid (Hb.out.1 x (List.mem_of_getElem? ht))
        have Hll := Lib.hid Hb.out.2
        clear ht
        go_upto_region 10 with fail
        have hS := HR.out.alloc (.cells #[.int .i64 x.kind, .string x.client, .string x.name, .int .i64 x.id] 36) (alloc_new _ _)
        generalize wr.alloc (.cells #[.int .i64 x.kind, .string x.client, .string x.name, .int .i64 x.id] 36) = W1 at *
        generalize wr.heap.size = b5 at *
        clear x1 x2 x3 x4 HR
        have c5 := rowC (hS.prot _ (.head _)).1
        have HS := Lib.hid hS
        clear hS
        go_wp2_with fail
        obtain ⟨cl, hcl, hcg⟩ := R.tops_ok HS.out.r.ok x.client
        have Hcl := Lib.hid hcl
        have Hcg := Lib.hid hcg
        have hg0l := Hlen.out x.client
        have Hg0l := Lib.hid hg0l
        clear hcl hcg hg0l
        obtain ⟨cl, hcl, hcg⟩ := R.tops_ok HS.out.r.ok x.client
        have Hcl := Lib.hid hcl
        have Hcg := Lib.hid hcg
        clear hcl hcg
        refine (solo_topics HS.out x.client).mono ?_
        rintro e W2 ⟨vw, rfl, hS2, fr2, hw2⟩
        obtain ⟨pw, cw, rfl⟩ := hw2.1.shape
        have HS2 := Lib.hid hS2
        have Hw2 := Lib.hid hw2
        clear hS2 hw2 c5 HS fr2
        have c5 := rowC (HS2.out.prot _ (.head _)).1
        have hop := other_op x.client Hx.out.1
        have hone := other_ne x.client
        have Hone := Lib.hid hone
        clear hone
        go_wp2_with fail
        generalize otherB ++ x.client = oth at *
        refine (solo_topics HS2.out oth).mono ?_
        rintro e W3 ⟨va, rfl, hS3, fr3, ha3⟩
        have HP : Hid (SwPre w W3 rb b5 x R cl (R.get x.client) (srtT (R.get x.client)) (srtT (R.get oth)) oth (.slice pw (srtT (R.get x.client)).length cw) va i) :=
          Lib.hid ⟨hS3, Hw2.out.still fr3, ha3, Hone.out, Hx.out, Hcl.out, Hcg.out, rfl, rfl, rfl, Hlen.out, by have := Hll.out; omega⟩
        clear c5 HS2 Hw2 fr3 ha3 hop Hcl Hcg Hone
        generalize hg0 : R.get x.client = g0 at HP
        clear hg0
        generalize srtT g0 = was at *
        have c5 := rowC (hS3.prot _ (.head _)).1
        clear hS3
        have hpk := fun W => pick_walk x.kind 5 W (by omega) (by omega)
        go_upto_block 2 with (go_at_call 8; refine (hpk _).mono ?_; rintro e w' ⟨rfl, rfl⟩)
        clear hpk c5
        generalize x.kind % 5 = q at *
        refine maps_switch HP.out ?_
        intro u2 u9 u10 u11 u12 u13 u14 u15 u52 u53 u54 u55 u56 u57 u58 u59 u60 u61 u62 u63 u64 u65 u66 u67 u68 u69 u70 u71 u72 u73 u74 u75 u76 u77 u78 u79 u80 u81 u82 u83 u84 u85 u86 u87 u88 u89 u90 u91 u92 u93 u94 u95 u96 u97 u98 u99 u100 u101 u102 u103 u104 u105 u106 u107 u108 u109 u110 u111 u112 u113 u114 u115 u116 u117 u118 u119 u120 u121 u122 u123 u124 u125 u126 u127 u128 u129 u130 u131 u132 u133 u134 u135 u136 u137 u138 u139 u140 u141 u142 u143 u144 u145 wc hA
        go_step
        refine wp_asThen (maps_tail HP.out hA ?_)
        intro v2 v16 v17 v18 v19 v20 v21 v22 v146 v147 v148 v149 v150 v151 v152 v153 v154 v155 v156 v157 v158 v159 v160 v161 v162 v163 v164 v165 v166 v167 v168 v169 v170 v171 v172 v173 v174 v175 v176 v177 v178 v179 v180 v181 v182 v183 v184 v185 v186 v187 v188 v189 v190 v191 v192 v193 v194 v195 v196 v197 v198 v199 v200 v201 v202 v203 v204 v205 v206 v207 v208 v209 v210 v211 v212 v213 v214 v215 v216 v217 v218 v219 v220 v221 v222 v223 v224 v225 v226 v227 v228 v229 v230 v231 v232 v233 v234 v235 v236 v237 v238 v239 v240 v241 v242 v243 v244 v245 v246 v247 v248 v249 v250 v251 v252 v253 wd hR
        have HR := Lib.hid hR
        clear hR hA HP
        go_wp2_with fail
        obtain ⟨R', hS', hl'⟩ := HR.out
        go_roundg (l.length - (i + 1))
        case measure => have := Hgk.out; omega
        case rel => exact ⟨i + 1, R', rfl, by omega, rfl, hS', hl'⟩
      · have hlt2 : ¬ (i : Int) < (l.length : Int) := by omega
        go_wp2_with fail
        go_ret
        exact ⟨rfl, HR.out.fr⟩
end Go.Proofs.Ytfgnipcegnoagaa
