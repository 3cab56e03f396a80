/- Printed walks: the reference, all routes. Conditions: none. -/
import Derived.Test.YtdlofkamkiojlaaDoorXGb
set_option maxRecDepth 100000
set_option maxHeartbeats 1000000
set_option linter.unusedVariables false
namespace Go.Abs.Tr
open Go Go.Abs Go.Proofs
def s108_l18 (N : Nat) (a0 : Table) (s1 : (List Leg) × Int) (s5 : (List Leg) × Int) (s11 : (List Leg) × Int) : Option (((List Leg) × Int) ⊕ ((List Leg))) :=
  (ix a0.trains s1.2).bind fun v14 =>
  if (decide (s11.2 < (v14.stops.length : Int))) then
    (ap 24 s11.1 ([(Leg.mk s1.2 s5.2 s11.2)])).bind fun v16 =>
    (ck (s11.2 + 1)).bind fun v17 =>
    some (.inl (v16, v17))
  else
    some (.inr s11.1)
def s108_l20 (N : Nat) (a0 : Table) (s1 : (List Leg) × Int) (s5 : (List Leg) × Int) : Option (((List Leg) × Int) ⊕ ((List Leg))) :=
  (ix a0.trains s1.2).bind fun v8 =>
  if (decide (s5.2 < (v8.stops.length : Int))) then
    (ck (s5.2 + 1)).bind fun v10 =>
    (iter (s108_l18 N a0 s1 s5) N (s5.1, v10)).bind fun o12 =>
    (ck (s5.2 + 1)).bind fun v19 =>
    some (.inl (o12, v19))
  else
    some (.inr s5.1)
def s108_l22 (N : Nat) (a0 : Table) (s1 : (List Leg) × Int) : Option (((List Leg) × Int) ⊕ ((List Leg))) :=
  if (decide (s1.2 < (a0.trains.length : Int))) then
    (iter (s108_l20 N a0 s1) N (s1.1, 0)).bind fun o6 =>
    (ck (s1.2 + 1)).bind fun v21 =>
    some (.inl (o6, v21))
  else
    some (.inr s1.1)
def s108 (N : Nat) (a0 : Table) : Option ((List Leg)) :=
  (iter (s108_l22 N a0) N ([], 0)).bind fun o2 =>
  some o2
def s102_l22 (N : Nat) (a0 : Table) (s2 : (List (List Leg)) × (List (List Leg)) × Int) (s6 : (List (List Leg)) × Int) (s10 : Int × Int × Int) : Option ((Int × Int × Int) ⊕ ((Int × Int))) :=
  (ix s2.2.1 s6.2).bind fun v13 =>
  if (decide (s10.2.2 < (v13.length : Int))) then
    (ix s2.2.1 s6.2).bind fun v15 =>
    (ix v15 s10.2.2).bind fun v16 =>
    (s74 N a0 v16).bind fun v17 =>
    (ix s2.2.1 s6.2).bind fun v18 =>
    (ix v18 s10.2.2).bind fun v19 =>
    (shlC 1 v19.train).bind fun v20 =>
    (ck (s10.2.2 + 1)).bind fun v21 =>
    some (.inl (v17.station, (orC s10.2.1 v20), v21))
  else
    some (.inr (s10.1, s10.2.1))
def s102_l49 (N : Nat) (a0 : Table) (v1 : (List Leg)) (s2 : (List (List Leg)) × (List (List Leg)) × Int) (s6 : (List (List Leg)) × Int) (o11 : Int × Int) (s23 : (List (List Leg)) × Int) : Option (((List (List Leg)) × Int) ⊕ ((List (List Leg)))) :=
  if (decide (s23.2 < (v1.length : Int))) then
    (ix v1 s23.2).bind fun v27 =>
    (s87 N o11.2 v27.train).bind fun v28 =>
    (if (!v28) then 
      (ix v1 s23.2).bind fun v31 =>
      (s72 N a0 v31).bind fun v32 =>
      some (v32.station == o11.1)
     else some false).bind fun v33 =>
    (if v33 then
      ((ix s2.2.1 s6.2).bind fun v39 =>
      (ap 24 ([]) v39).bind fun v40 =>
      if v39.isEmpty then
        (ix v1 s23.2).bind fun v42 =>
        (ap 24 ([]) ([v42])).bind fun v43 =>
        (ap 24 s23.1 ([v43])).bind fun v44 =>
        some v44
      else
        (ix v1 s23.2).bind fun v45 =>
        (ap 24 v40 ([v45])).bind fun v46 =>
        (ap 24 s23.1 ([v46])).bind fun v47 =>
        some v47).bind fun o37 =>
      some o37
    else
      some s23.1).bind fun o34 =>
    (ck (s23.2 + 1)).bind fun v48 =>
    some (.inl (o34, v48))
  else
    some (.inr s23.1)
def s102_l51 (N : Nat) (a0 : Table) (a1 : Int) (v1 : (List Leg)) (s2 : (List (List Leg)) × (List (List Leg)) × Int) (s6 : (List (List Leg)) × Int) : Option (((List (List Leg)) × Int) ⊕ ((List (List Leg)))) :=
  if (decide (s6.2 < (s2.2.1.length : Int))) then
    (iter (s102_l22 N a0 s2 s6) N (a1, 0, 0)).bind fun o11 =>
    (iter (s102_l49 N a0 v1 s2 s6 o11) N (s6.1, 0)).bind fun o24 =>
    (ck (s6.2 + 1)).bind fun v50 =>
    some (.inl (o24, v50))
  else
    some (.inr s6.1)
def s102_l57 (N : Nat) (a0 : Table) (a1 : Int) (v1 : (List Leg)) (s2 : (List (List Leg)) × (List (List Leg)) × Int) : Option (((List (List Leg)) × (List (List Leg)) × Int) ⊕ ((List (List Leg)))) :=
  if (decide (s2.2.2 < 4)) then
    (iter (s102_l51 N a0 a1 v1 s2) N ([], 0)).bind fun o7 =>
    ((ap 24 s2.1 o7).bind fun v54 =>
    if o7.isEmpty then
      some s2.1
    else
      some v54).bind fun o52 =>
    (ck (s2.2.2 + 1)).bind fun v56 =>
    some (.inl (o52, o7, v56))
  else
    some (.inr s2.1)
def s102 (N : Nat) (a0 : Table) (a1 : Int) : Option ((List (List Leg))) :=
  (s108 N a0).bind fun v1 =>
  (iter (s102_l57 N a0 a1 v1) N ([], [[]], 0)).bind fun o3 =>
  some o3
def s80_l18 (N : Nat) (a0 : Table) (a2 : Int) (v1 : (List (List Leg))) (s2 : (List (List Leg)) × Int) : Option (((List (List Leg)) × Int) ⊕ ((List (List Leg)))) :=
  if (decide (s2.2 < (v1.length : Int))) then
    (ix v1 s2.2).bind fun v6 =>
    (s59 N a0 v6).bind fun v7 =>
    (if (v7.2.2 && (v7.2.1 == a2)) then
      ((ix v1 s2.2).bind fun v15 =>
      (ap 24 s2.1 ([v15])).bind fun v16 =>
      some v16).bind fun o13 =>
      some o13
    else
      some s2.1).bind fun o10 =>
    (ck (s2.2 + 1)).bind fun v17 =>
    some (.inl (o10, v17))
  else
    some (.inr s2.1)
def s80 (N : Nat) (a0 : Table) (a1 : Int) (a2 : Int) : Option ((List (List Leg))) :=
  (s102 N a0 a1).bind fun v1 =>
  (iter (s80_l18 N a0 a2 v1) N ([], 0)).bind fun o3 =>
  some o3
def s79_l15 (N : Nat) (a0 : Table) (a1 : (List (List Leg))) (a2 : Int) (s1 : (List Leg) × Int × Int) : Option (((List Leg) × Int × Int) ⊕ (((List Leg) × Int))) :=
  if (decide (s1.2.2 < (a1.length : Int))) then
    ((ix a1 s1.2.2).bind fun v7 =>
    (s68 N a0 v7 a2).bind fun v8 =>
    if (!v8.2.1) then
      some (s1.1, s1.2.1)
    else
      (ix a1 s1.2.2).bind fun v10 =>
      (s76 N a0 v10 a2).bind fun v11 =>
      if (decide (v11.high < s1.2.1)) then
        (ix a1 s1.2.2).bind fun v13 =>
        some (v13, v11.high)
      else
        some (s1.1, s1.2.1)).bind fun o5 =>
    (ck (s1.2.2 + 1)).bind fun v14 =>
    some (.inl (o5.1, o5.2, v14))
  else
    some (.inr (s1.1, s1.2.1))
def s79 (N : Nat) (a0 : Table) (a1 : (List (List Leg))) (a2 : Int) : Option ((List Leg) × Int) :=
  (iter (s79_l15 N a0 a1 a2) N ([], 2880, 0)).bind fun o2 =>
  some (o2.1, o2.2)
def s30_l21 (N : Nat) (a0 : Table) (a3 : Int) (v8 : (List (List Leg))) (s9 : Int × Int) : Option ((Int × Int) ⊕ (Int)) :=
  if (decide (s9.2 < (v8.length : Int))) then
    (ix v8 s9.2).bind fun v13 =>
    (s68 N a0 v13 a3).bind fun v14 =>
    (if v14.2.2 then
      (ix v8 s9.2).bind fun v18 =>
      (s76 N a0 v18 a3).bind fun v19 =>
      some (mn s9.1 v19.low)
    else
      some s9.1).bind fun o15 =>
    (ck (s9.2 + 1)).bind fun v20 =>
    some (.inl (o15, v20))
  else
    some (.inr s9.1)
def s30 (N : Nat) (a0 : Table) (a1 : Int) (a2 : Int) (a3 : Int) : Option (Int × Int) :=
  (s58 N a0 a1 a2).bind fun v1 =>
  (if v1 then 
    (s67 N a3).bind fun v4 =>
    some v4
   else some false).bind fun v5 =>
  (s57 N a0 v5).bind fun v6 =>
  if (!(v6 == 0)) then
    some (0, v6)
  else
    (s80 N a0 a1 a2).bind fun v8 =>
    (iter (s30_l21 N a0 a3 v8) N (2880, 0)).bind fun o10 =>
    if (o10 == 2880) then
      some (0, 4)
    else
      some (o10, 0)
def s34_l22 (N : Nat) (a0 : Table) (a1 : Int) (a2 : Int) (s8 : (List Int) × Int) : Option (((List Int) × Int) ⊕ ((List Int))) :=
  if (decide (s8.2 < (a0.offices.length : Int))) then
    (if (!(s8.2 == a1)) then
      (s80 N a0 a1 s8.2).bind fun v15 =>
      (s79 N a0 v15 a2).bind fun v16 =>
      some v16.2
    else
      some a2).bind fun o12 =>
    (if (o12 == 2880) then
      some (-1)
    else
      some o12).bind fun o17 =>
    (ap 8 s8.1 ([o17])).bind fun v20 =>
    (ck (s8.2 + 1)).bind fun v21 =>
    some (.inl (v20, v21))
  else
    some (.inr s8.1)
def s34 (N : Nat) (a0 : Table) (a1 : Int) (a2 : Int) : Option ((List Int) × Int) :=
  (s86 N a0 a1).bind fun v1 =>
  (if v1 then 
    (s67 N a2).bind fun v4 =>
    some v4
   else some false).bind fun v5 =>
  (s57 N a0 v5).bind fun v6 =>
  if (!(v6 == 0)) then
    some ([], v6)
  else
    (iter (s34_l22 N a0 a1 a2) N ([], 0)).bind fun o9 =>
    some (o9, 0)
end Go.Abs.Tr
