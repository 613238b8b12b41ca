/- What these functions give, and that the law FnLabels gives true. -/
import Derived.Test.YtldmpjoddghdkaaCFnLabels
namespace Go.Proofs.Ytldmpjoddghdkaa.AI
open Go.Proofs
set_option linter.all false
set_option maxRecDepth 100000
structure DNode where
  Kind : Int
  Num : Int
  Name : ByteArray
  More : ByteArray
  To : ByteArray
  Kids : List (Int)
abbrev cNode (x : DNode) : List AV := [.int .i64 x.Kind, .int .i64 x.Num, .str x.Name, .str x.More, .str x.To, .tree 1 (x.Kids.map cI)]
def wtNode (x : DNode) : Nat := x.Name.size + x.More.size + x.To.size + x.Kids.length
def gdNode (x : DNode) : Prop := i64 x.Kind ∧ i64 x.Num ∧ gdS x.Name ∧ gdS x.More ∧ gdS x.To ∧ (x.Kids.length ≤ 140737488351232 ∧ ∀ y ∈ x.Kids, i64 y)
def mkNode (x : DNode) (k : Int) : DNode := { Kind := k, Num := (k + 1), Name := (mT ((k + 1) + 1)), More := (mT (((k + 1) + 1) + 1)), To := (mT ((((k + 1) + 1) + 1) + 1)), Kids := mkL mkI ct1 x.Kids (((((k + 1) + 1) + 1) + 1) + 1) }
def ctNode (x : DNode) : Nat := 1 + 1 + 1 + 1 + 1 + tot ct1 x.Kids
theorem ctle_Node (x : DNode) : ctNode x ≤ 5 * (1 + wtNode x) := by
  have h0 := tot_ct1 x.Kids
  unfold ctNode
  simp only [wtNode] at *
  omega
theorem tctle_Node (xs : List DNode) : tot ctNode xs ≤ 5 * (xs.length + tot wtNode xs) := tot_ct_le ctle_Node xs
def mwNode (x : DNode) (k : Int) : DNode := { Kind := x.Kind, Num := x.Num, Name := x.Name, More := x.More, To := x.To, Kids := mkL mkI ct1 x.Kids k }
def cwNode (x : DNode) : Nat := tot ct1 x.Kids
theorem set_cNode {xs : List DNode} {n : Nat} {x : DNode} : (xs.map cNode).set n [.int .i64 x.Kind, .int .i64 x.Num, .str x.Name, .str x.More, .str x.To, .tree 1 (x.Kids.map cI)] = (xs.set n x).map cNode := by rw [List.map_set]
theorem snoc_cNode {xs : List DNode} {x : DNode} : xs.map cNode ++ [[.int .i64 x.Kind, .int .i64 x.Num, .str x.Name, .str x.More, .str x.To, .tree 1 (x.Kids.map cI)]] = (xs ++ [x]).map cNode := by simp
theorem solid_cNode {xs : List DNode} : solid (xs.map cNode) = true := solid_map fun _ => rfl
structure DEntry where
  Name : ByteArray
  Param : ByteArray
  Body : Int
abbrev cEntry (x : DEntry) : List AV := [.str x.Name, .str x.Param, .int .i64 x.Body]
def wtEntry (x : DEntry) : Nat := x.Name.size + x.Param.size
def gdEntry (x : DEntry) : Prop := gdS x.Name ∧ gdS x.Param ∧ i64 x.Body
def mkEntry (x : DEntry) (k : Int) : DEntry := { Name := (mT k), Param := (mT (k + 1)), Body := ((k + 1) + 1) }
def ctEntry (x : DEntry) : Nat := 1 + 1 + 1
theorem ctle_Entry (x : DEntry) : ctEntry x ≤ 3 * (1 + wtEntry x) := by
  unfold ctEntry
  simp only [wtEntry] at *
  omega
theorem tctle_Entry (xs : List DEntry) : tot ctEntry xs ≤ 3 * (xs.length + tot wtEntry xs) := tot_ct_le ctle_Entry xs
theorem flat_cEntry {xs : List DEntry} : flat (xs.map cEntry) = true := flat_map fun _ => rfl
theorem set_cEntry {xs : List DEntry} {n : Nat} {x : DEntry} : (xs.map cEntry).set n [.str x.Name, .str x.Param, .int .i64 x.Body] = (xs.set n x).map cEntry := by rw [List.map_set]
theorem snoc_cEntry {xs : List DEntry} {x : DEntry} : xs.map cEntry ++ [[.str x.Name, .str x.Param, .int .i64 x.Body]] = (xs ++ [x]).map cEntry := by simp
theorem solid_cEntry {xs : List DEntry} : solid (xs.map cEntry) = true := solid_map fun _ => rfl
structure DMonitor where
  Name : ByteArray
  Vars : List (ByteArray)
  Queues : List (ByteArray)
  Entries : List (DEntry)
abbrev cMonitor (x : DMonitor) : List AV := [.str x.Name, .tree 1 (x.Vars.map cS), .tree 1 (x.Queues.map cS), .tree 3 (x.Entries.map cEntry)]
def wtMonitor (x : DMonitor) : Nat := x.Name.size + (x.Vars.length + tot wtS x.Vars) + (x.Queues.length + tot wtS x.Queues) + (x.Entries.length + tot wtEntry x.Entries)
def gdMonitor (x : DMonitor) : Prop := gdS x.Name ∧ (x.Vars.length ≤ 140737488351232 ∧ ∀ y ∈ x.Vars, gdS y) ∧ (x.Queues.length ≤ 140737488351232 ∧ ∀ y ∈ x.Queues, gdS y) ∧ (x.Entries.length ≤ 140737488351232 ∧ ∀ y ∈ x.Entries, gdEntry y)
def mkMonitor (x : DMonitor) (k : Int) : DMonitor := { Name := (mT k), Vars := mkL mkS ct1 x.Vars (k + 1), Queues := mkL mkS ct1 x.Queues ((k + 1) + (tot ct1 x.Vars : Nat)), Entries := mkL mkEntry ctEntry x.Entries (((k + 1) + (tot ct1 x.Vars : Nat)) + (tot ct1 x.Queues : Nat)) }
def ctMonitor (x : DMonitor) : Nat := 1 + tot ct1 x.Vars + tot ct1 x.Queues + tot ctEntry x.Entries
theorem ctle_Monitor (x : DMonitor) : ctMonitor x ≤ 3 * (1 + wtMonitor x) := by
  have h0 := tot_ct1 x.Vars
  have h1 := tot_ct1 x.Queues
  have h2 := tctle_Entry x.Entries
  unfold ctMonitor
  simp only [wtMonitor] at *
  omega
theorem tctle_Monitor (xs : List DMonitor) : tot ctMonitor xs ≤ 3 * (xs.length + tot wtMonitor xs) := tot_ct_le ctle_Monitor xs
def mwMonitor (x : DMonitor) (k : Int) : DMonitor := { Name := x.Name, Vars := mkL mkS ct1 x.Vars k, Queues := mkL mkS ct1 x.Queues (k + (tot ct1 x.Vars : Nat)), Entries := mkL mkEntry ctEntry x.Entries ((k + (tot ct1 x.Vars : Nat)) + (tot ct1 x.Queues : Nat)) }
def cwMonitor (x : DMonitor) : Nat := tot ct1 x.Vars + tot ct1 x.Queues + tot ctEntry x.Entries
theorem set_cMonitor {xs : List DMonitor} {n : Nat} {x : DMonitor} : (xs.map cMonitor).set n [.str x.Name, .tree 1 (x.Vars.map cS), .tree 1 (x.Queues.map cS), .tree 3 (x.Entries.map cEntry)] = (xs.set n x).map cMonitor := by rw [List.map_set]
theorem snoc_cMonitor {xs : List DMonitor} {x : DMonitor} : xs.map cMonitor ++ [[.str x.Name, .tree 1 (x.Vars.map cS), .tree 1 (x.Queues.map cS), .tree 3 (x.Entries.map cEntry)]] = (xs ++ [x]).map cMonitor := by simp
theorem solid_cMonitor {xs : List DMonitor} : solid (xs.map cMonitor) = true := solid_map fun _ => rfl
structure DProcess where
  Name : ByteArray
  Uses : List (ByteArray)
  Vars : List (ByteArray)
  Body : Int
abbrev cProcess (x : DProcess) : List AV := [.str x.Name, .tree 1 (x.Uses.map cS), .tree 1 (x.Vars.map cS), .int .i64 x.Body]
def wtProcess (x : DProcess) : Nat := x.Name.size + (x.Uses.length + tot wtS x.Uses) + (x.Vars.length + tot wtS x.Vars)
def gdProcess (x : DProcess) : Prop := gdS x.Name ∧ (x.Uses.length ≤ 140737488351232 ∧ ∀ y ∈ x.Uses, gdS y) ∧ (x.Vars.length ≤ 140737488351232 ∧ ∀ y ∈ x.Vars, gdS y) ∧ i64 x.Body
def mkProcess (x : DProcess) (k : Int) : DProcess := { Name := (mT k), Uses := mkL mkS ct1 x.Uses (k + 1), Vars := mkL mkS ct1 x.Vars ((k + 1) + (tot ct1 x.Uses : Nat)), Body := (((k + 1) + (tot ct1 x.Uses : Nat)) + (tot ct1 x.Vars : Nat)) }
def ctProcess (x : DProcess) : Nat := 1 + tot ct1 x.Uses + tot ct1 x.Vars + 1
theorem ctle_Process (x : DProcess) : ctProcess x ≤ 2 * (1 + wtProcess x) := by
  have h0 := tot_ct1 x.Uses
  have h1 := tot_ct1 x.Vars
  unfold ctProcess
  simp only [wtProcess] at *
  omega
theorem tctle_Process (xs : List DProcess) : tot ctProcess xs ≤ 2 * (xs.length + tot wtProcess xs) := tot_ct_le ctle_Process xs
def mwProcess (x : DProcess) (k : Int) : DProcess := { Name := x.Name, Uses := mkL mkS ct1 x.Uses k, Vars := mkL mkS ct1 x.Vars (k + (tot ct1 x.Uses : Nat)), Body := x.Body }
def cwProcess (x : DProcess) : Nat := tot ct1 x.Uses + tot ct1 x.Vars
theorem set_cProcess {xs : List DProcess} {n : Nat} {x : DProcess} : (xs.map cProcess).set n [.str x.Name, .tree 1 (x.Uses.map cS), .tree 1 (x.Vars.map cS), .int .i64 x.Body] = (xs.set n x).map cProcess := by rw [List.map_set]
theorem snoc_cProcess {xs : List DProcess} {x : DProcess} : xs.map cProcess ++ [[.str x.Name, .tree 1 (x.Uses.map cS), .tree 1 (x.Vars.map cS), .int .i64 x.Body]] = (xs ++ [x]).map cProcess := by simp
theorem solid_cProcess {xs : List DProcess} : solid (xs.map cProcess) = true := solid_map fun _ => rfl
structure DProgram where
  Nodes : List (DNode)
  Monitors : List (DMonitor)
  Processes : List (DProcess)
abbrev cProgram (x : DProgram) : List AV := [.tree 6 (x.Nodes.map cNode), .tree 4 (x.Monitors.map cMonitor), .tree 4 (x.Processes.map cProcess)]
def wtProgram (x : DProgram) : Nat := (x.Nodes.length + tot wtNode x.Nodes) + (x.Monitors.length + tot wtMonitor x.Monitors) + (x.Processes.length + tot wtProcess x.Processes)
def gdProgram (x : DProgram) : Prop := (x.Nodes.length ≤ 140737488351232 ∧ ∀ y ∈ x.Nodes, gdNode y) ∧ (x.Monitors.length ≤ 140737488351232 ∧ ∀ y ∈ x.Monitors, gdMonitor y) ∧ (x.Processes.length ≤ 140737488351232 ∧ ∀ y ∈ x.Processes, gdProcess y)
def mkProgram (x : DProgram) (k : Int) : DProgram := { Nodes := mkL mkNode ctNode x.Nodes k, Monitors := mkL mkMonitor ctMonitor x.Monitors (k + (tot ctNode x.Nodes : Nat)), Processes := mkL mkProcess ctProcess x.Processes ((k + (tot ctNode x.Nodes : Nat)) + (tot ctMonitor x.Monitors : Nat)) }
def ctProgram (x : DProgram) : Nat := tot ctNode x.Nodes + tot ctMonitor x.Monitors + tot ctProcess x.Processes
theorem ctle_Program (x : DProgram) : ctProgram x ≤ 5 * (1 + wtProgram x) := by
  have h0 := tctle_Node x.Nodes
  have h1 := tctle_Monitor x.Monitors
  have h2 := tctle_Process x.Processes
  unfold ctProgram
  simp only [wtProgram] at *
  omega
theorem tctle_Program (xs : List DProgram) : tot ctProgram xs ≤ 5 * (xs.length + tot wtProgram xs) := tot_ct_le ctle_Program xs
def mwProgram (x : DProgram) (k : Int) : DProgram := { Nodes := mkL mkNode ctNode x.Nodes k, Monitors := mkL mkMonitor ctMonitor x.Monitors (k + (tot ctNode x.Nodes : Nat)), Processes := mkL mkProcess ctProcess x.Processes ((k + (tot ctNode x.Nodes : Nat)) + (tot ctMonitor x.Monitors : Nat)) }
def cwProgram (x : DProgram) : Nat := tot ctNode x.Nodes + tot ctMonitor x.Monitors + tot ctProcess x.Processes
theorem set_cProgram {xs : List DProgram} {n : Nat} {x : DProgram} : (xs.map cProgram).set n [.tree 6 (x.Nodes.map cNode), .tree 4 (x.Monitors.map cMonitor), .tree 4 (x.Processes.map cProcess)] = (xs.set n x).map cProgram := by rw [List.map_set]
theorem snoc_cProgram {xs : List DProgram} {x : DProgram} : xs.map cProgram ++ [[.tree 6 (x.Nodes.map cNode), .tree 4 (x.Monitors.map cMonitor), .tree 4 (x.Processes.map cProcess)]] = (xs ++ [x]).map cProgram := by simp
theorem solid_cProgram {xs : List DProgram} : solid (xs.map cProgram) = true := solid_map fun _ => rfl
structure DGate where
  Owner : Int
  Waits : List (Int)
  Queues : List (Int)
abbrev cGate (x : DGate) : List AV := [.int .i64 x.Owner, .tree 1 (x.Waits.map cI), .tree 1 (x.Queues.map cI)]
def wtGate (x : DGate) : Nat := x.Waits.length + x.Queues.length
def gdGate (x : DGate) : Prop := i64 x.Owner ∧ (x.Waits.length ≤ 140737488351232 ∧ ∀ y ∈ x.Waits, i64 y) ∧ (x.Queues.length ≤ 140737488351232 ∧ ∀ y ∈ x.Queues, i64 y)
def mkGate (x : DGate) (k : Int) : DGate := { Owner := k, Waits := mkL mkI ct1 x.Waits (k + 1), Queues := mkL mkI ct1 x.Queues ((k + 1) + (tot ct1 x.Waits : Nat)) }
def ctGate (x : DGate) : Nat := 1 + tot ct1 x.Waits + tot ct1 x.Queues
theorem ctle_Gate (x : DGate) : ctGate x ≤ 1 * (1 + wtGate x) := by
  have h0 := tot_ct1 x.Waits
  have h1 := tot_ct1 x.Queues
  unfold ctGate
  simp only [wtGate] at *
  omega
theorem tctle_Gate (xs : List DGate) : tot ctGate xs ≤ 1 * (xs.length + tot wtGate xs) := tot_ct_le ctle_Gate xs
def mwGate (x : DGate) (k : Int) : DGate := { Owner := x.Owner, Waits := mkL mkI ct1 x.Waits k, Queues := mkL mkI ct1 x.Queues (k + (tot ct1 x.Waits : Nat)) }
def cwGate (x : DGate) : Nat := tot ct1 x.Waits + tot ct1 x.Queues
theorem set_cGate {xs : List DGate} {n : Nat} {x : DGate} : (xs.map cGate).set n [.int .i64 x.Owner, .tree 1 (x.Waits.map cI), .tree 1 (x.Queues.map cI)] = (xs.set n x).map cGate := by rw [List.map_set]
theorem snoc_cGate {xs : List DGate} {x : DGate} : xs.map cGate ++ [[.int .i64 x.Owner, .tree 1 (x.Waits.map cI), .tree 1 (x.Queues.map cI)]] = (xs ++ [x]).map cGate := by simp
theorem solid_cGate {xs : List DGate} : solid (xs.map cGate) = true := solid_map fun _ => rfl
structure DEvent where
  Process : Int
  Kind : Int
  Num : Int
abbrev cEvent (x : DEvent) : List AV := [.int .i64 x.Process, .int .i64 x.Kind, .int .i64 x.Num]
def gdEvent (x : DEvent) : Prop := i64 x.Process ∧ i64 x.Kind ∧ i64 x.Num
def mkEvent (x : DEvent) (k : Int) : DEvent := { Process := k, Kind := (k + 1), Num := ((k + 1) + 1) }
def ctEvent (x : DEvent) : Nat := 1 + 1 + 1
theorem ctle_Event (x : DEvent) : ctEvent x ≤ 3 := by
  unfold ctEvent
  omega
theorem tctle_Event (xs : List DEvent) : tot ctEvent xs ≤ 3 * xs.length := tot_ct_le0 ctle_Event xs
theorem flat_cEvent {xs : List DEvent} : flat (xs.map cEvent) = true := flat_map fun _ => rfl
theorem set_cEvent {xs : List DEvent} {n : Nat} {x : DEvent} : (xs.map cEvent).set n [.int .i64 x.Process, .int .i64 x.Kind, .int .i64 x.Num] = (xs.set n x).map cEvent := by rw [List.map_set]
theorem snoc_cEvent {xs : List DEvent} {x : DEvent} : xs.map cEvent ++ [[.int .i64 x.Process, .int .i64 x.Kind, .int .i64 x.Num]] = (xs ++ [x]).map cEvent := by simp
theorem solid_cEvent {xs : List DEvent} : solid (xs.map cEvent) = true := solid_map fun _ => rfl
structure DIns where
  Op : Int
  A : Int
  B : Int
  C : Int
abbrev cIns (x : DIns) : List AV := [.int .i64 x.Op, .int .i64 x.A, .int .i64 x.B, .int .i64 x.C]
def gdIns (x : DIns) : Prop := i64 x.Op ∧ i64 x.A ∧ i64 x.B ∧ i64 x.C
def mkIns (x : DIns) (k : Int) : DIns := { Op := k, A := (k + 1), B := ((k + 1) + 1), C := (((k + 1) + 1) + 1) }
def ctIns (x : DIns) : Nat := 1 + 1 + 1 + 1
theorem ctle_Ins (x : DIns) : ctIns x ≤ 4 := by
  unfold ctIns
  omega
theorem tctle_Ins (xs : List DIns) : tot ctIns xs ≤ 4 * xs.length := tot_ct_le0 ctle_Ins xs
theorem flat_cIns {xs : List DIns} : flat (xs.map cIns) = true := flat_map fun _ => rfl
theorem set_cIns {xs : List DIns} {n : Nat} {x : DIns} : (xs.map cIns).set n [.int .i64 x.Op, .int .i64 x.A, .int .i64 x.B, .int .i64 x.C] = (xs.set n x).map cIns := by rw [List.map_set]
theorem snoc_cIns {xs : List DIns} {x : DIns} : xs.map cIns ++ [[.int .i64 x.Op, .int .i64 x.A, .int .i64 x.B, .int .i64 x.C]] = (xs ++ [x]).map cIns := by simp
theorem solid_cIns {xs : List DIns} : solid (xs.map cIns) = true := solid_map fun _ => rfl
structure DCore where
  Regs : List (Int)
  Pc : Int
  Process : Int
abbrev cCore (x : DCore) : List AV := [.tree 1 (x.Regs.map cI), .int .i64 x.Pc, .int .i64 x.Process]
def wtCore (x : DCore) : Nat := x.Regs.length
def gdCore (x : DCore) : Prop := (x.Regs.length ≤ 140737488351232 ∧ ∀ y ∈ x.Regs, i64 y) ∧ i64 x.Pc ∧ i64 x.Process
def mkCore (x : DCore) (k : Int) : DCore := { Regs := mkL mkI ct1 x.Regs k, Pc := (k + (tot ct1 x.Regs : Nat)), Process := ((k + (tot ct1 x.Regs : Nat)) + 1) }
def ctCore (x : DCore) : Nat := tot ct1 x.Regs + 1 + 1
theorem ctle_Core (x : DCore) : ctCore x ≤ 2 * (1 + wtCore x) := by
  have h0 := tot_ct1 x.Regs
  unfold ctCore
  simp only [wtCore] at *
  omega
theorem tctle_Core (xs : List DCore) : tot ctCore xs ≤ 2 * (xs.length + tot wtCore xs) := tot_ct_le ctle_Core xs
def mwCore (x : DCore) (k : Int) : DCore := { Regs := mkL mkI ct1 x.Regs k, Pc := x.Pc, Process := x.Process }
def cwCore (x : DCore) : Nat := tot ct1 x.Regs
theorem set_cCore {xs : List DCore} {n : Nat} {x : DCore} : (xs.map cCore).set n [.tree 1 (x.Regs.map cI), .int .i64 x.Pc, .int .i64 x.Process] = (xs.set n x).map cCore := by rw [List.map_set]
theorem snoc_cCore {xs : List DCore} {x : DCore} : xs.map cCore ++ [[.tree 1 (x.Regs.map cI), .int .i64 x.Pc, .int .i64 x.Process]] = (xs ++ [x]).map cCore := by simp
theorem solid_cCore {xs : List DCore} : solid (xs.map cCore) = true := solid_map fun _ => rfl
structure DLine where
  Label : ByteArray
  Ins : DIns
  Target : ByteArray
abbrev cLine (x : DLine) : List AV := [.str x.Label, .int .i64 x.Ins.Op, .int .i64 x.Ins.A, .int .i64 x.Ins.B, .int .i64 x.Ins.C, .str x.Target]
def wtLine (x : DLine) : Nat := x.Label.size + x.Target.size
def gdLine (x : DLine) : Prop := gdS x.Label ∧ gdIns x.Ins ∧ gdS x.Target
def mkLine (x : DLine) (k : Int) : DLine := { Label := (mT k), Ins := { Op := (k + 1), A := ((k + 1) + 1), B := (((k + 1) + 1) + 1), C := ((((k + 1) + 1) + 1) + 1) }, Target := (mT (((((k + 1) + 1) + 1) + 1) + 1)) }
def ctLine (x : DLine) : Nat := 1 + 1 + 1 + 1 + 1 + 1
theorem ctle_Line (x : DLine) : ctLine x ≤ 6 * (1 + wtLine x) := by
  unfold ctLine
  simp only [wtLine] at *
  omega
theorem tctle_Line (xs : List DLine) : tot ctLine xs ≤ 6 * (xs.length + tot wtLine xs) := tot_ct_le ctle_Line xs
theorem flat_cLine {xs : List DLine} : flat (xs.map cLine) = true := flat_map fun _ => rfl
theorem set_cLine {xs : List DLine} {n : Nat} {x : DLine} : (xs.map cLine).set n [.str x.Label, .int .i64 x.Ins.Op, .int .i64 x.Ins.A, .int .i64 x.Ins.B, .int .i64 x.Ins.C, .str x.Target] = (xs.set n x).map cLine := by rw [List.map_set]
theorem snoc_cLine {xs : List DLine} {x : DLine} : xs.map cLine ++ [[.str x.Label, .int .i64 x.Ins.Op, .int .i64 x.Ins.A, .int .i64 x.Ins.B, .int .i64 x.Ins.C, .str x.Target]] = (xs ++ [x]).map cLine := by simp
theorem solid_cLine {xs : List DLine} : solid (xs.map cLine) = true := solid_map fun _ => rfl
structure DPlaces where
  Names : List (ByteArray)
  Ats : List (Int)
abbrev cPlaces (x : DPlaces) : List AV := [.tree 1 (x.Names.map cS), .tree 1 (x.Ats.map cI)]
def wtPlaces (x : DPlaces) : Nat := (x.Names.length + tot wtS x.Names) + x.Ats.length
def gdPlaces (x : DPlaces) : Prop := (x.Names.length ≤ 140737488351232 ∧ ∀ y ∈ x.Names, gdS y) ∧ (x.Ats.length ≤ 140737488351232 ∧ ∀ y ∈ x.Ats, i64 y)
def mkPlaces (x : DPlaces) (k : Int) : DPlaces := { Names := mkL mkS ct1 x.Names k, Ats := mkL mkI ct1 x.Ats (k + (tot ct1 x.Names : Nat)) }
def ctPlaces (x : DPlaces) : Nat := tot ct1 x.Names + tot ct1 x.Ats
theorem ctle_Places (x : DPlaces) : ctPlaces x ≤ 1 * (1 + wtPlaces x) := by
  have h0 := tot_ct1 x.Names
  have h1 := tot_ct1 x.Ats
  unfold ctPlaces
  simp only [wtPlaces] at *
  omega
theorem tctle_Places (xs : List DPlaces) : tot ctPlaces xs ≤ 1 * (xs.length + tot wtPlaces xs) := tot_ct_le ctle_Places xs
def mwPlaces (x : DPlaces) (k : Int) : DPlaces := { Names := mkL mkS ct1 x.Names k, Ats := mkL mkI ct1 x.Ats (k + (tot ct1 x.Names : Nat)) }
def cwPlaces (x : DPlaces) : Nat := tot ct1 x.Names + tot ct1 x.Ats
theorem set_cPlaces {xs : List DPlaces} {n : Nat} {x : DPlaces} : (xs.map cPlaces).set n [.tree 1 (x.Names.map cS), .tree 1 (x.Ats.map cI)] = (xs.set n x).map cPlaces := by rw [List.map_set]
theorem snoc_cPlaces {xs : List DPlaces} {x : DPlaces} : xs.map cPlaces ++ [[.tree 1 (x.Names.map cS), .tree 1 (x.Ats.map cI)]] = (xs ++ [x]).map cPlaces := by simp
theorem solid_cPlaces {xs : List DPlaces} : solid (xs.map cPlaces) = true := solid_map fun _ => rfl
structure DImage where
  Text : List (Int)
  Starts : List (Int)
  Size : Int
abbrev cImage (x : DImage) : List AV := [.tree 1 (x.Text.map cI), .tree 1 (x.Starts.map cI), .int .i64 x.Size]
def wtImage (x : DImage) : Nat := x.Text.length + x.Starts.length
def gdImage (x : DImage) : Prop := (x.Text.length ≤ 140737488351232 ∧ ∀ y ∈ x.Text, i64 y) ∧ (x.Starts.length ≤ 140737488351232 ∧ ∀ y ∈ x.Starts, i64 y) ∧ i64 x.Size
def mkImage (x : DImage) (k : Int) : DImage := { Text := mkL mkI ct1 x.Text k, Starts := mkL mkI ct1 x.Starts (k + (tot ct1 x.Text : Nat)), Size := ((k + (tot ct1 x.Text : Nat)) + (tot ct1 x.Starts : Nat)) }
def ctImage (x : DImage) : Nat := tot ct1 x.Text + tot ct1 x.Starts + 1
theorem ctle_Image (x : DImage) : ctImage x ≤ 1 * (1 + wtImage x) := by
  have h0 := tot_ct1 x.Text
  have h1 := tot_ct1 x.Starts
  unfold ctImage
  simp only [wtImage] at *
  omega
theorem tctle_Image (xs : List DImage) : tot ctImage xs ≤ 1 * (xs.length + tot wtImage xs) := tot_ct_le ctle_Image xs
def mwImage (x : DImage) (k : Int) : DImage := { Text := mkL mkI ct1 x.Text k, Starts := mkL mkI ct1 x.Starts (k + (tot ct1 x.Text : Nat)), Size := x.Size }
def cwImage (x : DImage) : Nat := tot ct1 x.Text + tot ct1 x.Starts
theorem set_cImage {xs : List DImage} {n : Nat} {x : DImage} : (xs.map cImage).set n [.tree 1 (x.Text.map cI), .tree 1 (x.Starts.map cI), .int .i64 x.Size] = (xs.set n x).map cImage := by rw [List.map_set]
theorem snoc_cImage {xs : List DImage} {x : DImage} : xs.map cImage ++ [[.tree 1 (x.Text.map cI), .tree 1 (x.Starts.map cI), .int .i64 x.Size]] = (xs ++ [x]).map cImage := by simp
theorem solid_cImage {xs : List DImage} : solid (xs.map cImage) = true := solid_map fun _ => rfl
structure DKernel where
  Gates : List (DGate)
  Ready : List (Int)
  Saved : List (DCore)
  Over : List (Bool)
abbrev cKernel (x : DKernel) : List AV := [.tree 3 (x.Gates.map cGate), .tree 1 (x.Ready.map cI), .tree 3 (x.Saved.map cCore), .tree 1 (x.Over.map cB)]
def wtKernel (x : DKernel) : Nat := (x.Gates.length + tot wtGate x.Gates) + x.Ready.length + (x.Saved.length + tot wtCore x.Saved) + x.Over.length
def gdKernel (x : DKernel) : Prop := (x.Gates.length ≤ 140737488351232 ∧ ∀ y ∈ x.Gates, gdGate y) ∧ (x.Ready.length ≤ 140737488351232 ∧ ∀ y ∈ x.Ready, i64 y) ∧ (x.Saved.length ≤ 140737488351232 ∧ ∀ y ∈ x.Saved, gdCore y) ∧ (x.Over.length ≤ 140737488351232)
def mkKernel (x : DKernel) (k : Int) : DKernel := { Gates := mkL mkGate ctGate x.Gates k, Ready := mkL mkI ct1 x.Ready (k + (tot ctGate x.Gates : Nat)), Saved := mkL mkCore ctCore x.Saved ((k + (tot ctGate x.Gates : Nat)) + (tot ct1 x.Ready : Nat)), Over := mkL mkB ct1 x.Over (((k + (tot ctGate x.Gates : Nat)) + (tot ct1 x.Ready : Nat)) + (tot ctCore x.Saved : Nat)) }
def ctKernel (x : DKernel) : Nat := tot ctGate x.Gates + tot ct1 x.Ready + tot ctCore x.Saved + tot ct1 x.Over
theorem ctle_Kernel (x : DKernel) : ctKernel x ≤ 2 * (1 + wtKernel x) := by
  have h0 := tctle_Gate x.Gates
  have h1 := tot_ct1 x.Ready
  have h2 := tctle_Core x.Saved
  have h3 := tot_ct1 x.Over
  unfold ctKernel
  simp only [wtKernel] at *
  omega
theorem tctle_Kernel (xs : List DKernel) : tot ctKernel xs ≤ 2 * (xs.length + tot wtKernel xs) := tot_ct_le ctle_Kernel xs
def mwKernel (x : DKernel) (k : Int) : DKernel := { Gates := mkL mkGate ctGate x.Gates k, Ready := mkL mkI ct1 x.Ready (k + (tot ctGate x.Gates : Nat)), Saved := mkL mkCore ctCore x.Saved ((k + (tot ctGate x.Gates : Nat)) + (tot ct1 x.Ready : Nat)), Over := mkL mkB ct1 x.Over (((k + (tot ctGate x.Gates : Nat)) + (tot ct1 x.Ready : Nat)) + (tot ctCore x.Saved : Nat)) }
def cwKernel (x : DKernel) : Nat := tot ctGate x.Gates + tot ct1 x.Ready + tot ctCore x.Saved + tot ct1 x.Over
theorem set_cKernel {xs : List DKernel} {n : Nat} {x : DKernel} : (xs.map cKernel).set n [.tree 3 (x.Gates.map cGate), .tree 1 (x.Ready.map cI), .tree 3 (x.Saved.map cCore), .tree 1 (x.Over.map cB)] = (xs.set n x).map cKernel := by rw [List.map_set]
theorem snoc_cKernel {xs : List DKernel} {x : DKernel} : xs.map cKernel ++ [[.tree 3 (x.Gates.map cGate), .tree 1 (x.Ready.map cI), .tree 3 (x.Saved.map cCore), .tree 1 (x.Over.map cB)]] = (xs ++ [x]).map cKernel := by simp
theorem solid_cKernel {xs : List DKernel} : solid (xs.map cKernel) = true := solid_map fun _ => rfl
structure DMachine where
  Image : DImage
  Mem : List (Int)
  Cores : List (DCore)
  Kernel : DKernel
  Input : List (Int)
  Events : List (DEvent)
  Stopped : Bool
abbrev cMachine (x : DMachine) : List AV := [.tree 1 (x.Image.Text.map cI), .tree 1 (x.Image.Starts.map cI), .int .i64 x.Image.Size, .tree 1 (x.Mem.map cI), .tree 3 (x.Cores.map cCore), .tree 3 (x.Kernel.Gates.map cGate), .tree 1 (x.Kernel.Ready.map cI), .tree 3 (x.Kernel.Saved.map cCore), .tree 1 (x.Kernel.Over.map cB), .tree 1 (x.Input.map cI), .tree 3 (x.Events.map cEvent), .bool x.Stopped]
def wtMachine (x : DMachine) : Nat := (wtImage x.Image) + x.Mem.length + (x.Cores.length + tot wtCore x.Cores) + (wtKernel x.Kernel) + x.Input.length + x.Events.length
def gdMachine (x : DMachine) : Prop := gdImage x.Image ∧ (x.Mem.length ≤ 140737488351232 ∧ ∀ y ∈ x.Mem, i64 y) ∧ (x.Cores.length ≤ 140737488351232 ∧ ∀ y ∈ x.Cores, gdCore y) ∧ gdKernel x.Kernel ∧ (x.Input.length ≤ 140737488351232 ∧ ∀ y ∈ x.Input, i64 y) ∧ (x.Events.length ≤ 140737488351232 ∧ ∀ y ∈ x.Events, gdEvent y)
def mkMachine (x : DMachine) (k : Int) : DMachine := { Image := { Text := mkL mkI ct1 x.Image.Text k, Starts := mkL mkI ct1 x.Image.Starts (k + (tot ct1 x.Image.Text : Nat)), Size := ((k + (tot ct1 x.Image.Text : Nat)) + (tot ct1 x.Image.Starts : Nat)) }, Mem := mkL mkI ct1 x.Mem (((k + (tot ct1 x.Image.Text : Nat)) + (tot ct1 x.Image.Starts : Nat)) + 1), Cores := mkL mkCore ctCore x.Cores ((((k + (tot ct1 x.Image.Text : Nat)) + (tot ct1 x.Image.Starts : Nat)) + 1) + (tot ct1 x.Mem : Nat)), Kernel := { Gates := mkL mkGate ctGate x.Kernel.Gates (((((k + (tot ct1 x.Image.Text : Nat)) + (tot ct1 x.Image.Starts : Nat)) + 1) + (tot ct1 x.Mem : Nat)) + (tot ctCore x.Cores : Nat)), Ready := mkL mkI ct1 x.Kernel.Ready ((((((k + (tot ct1 x.Image.Text : Nat)) + (tot ct1 x.Image.Starts : Nat)) + 1) + (tot ct1 x.Mem : Nat)) + (tot ctCore x.Cores : Nat)) + (tot ctGate x.Kernel.Gates : Nat)), Saved := mkL mkCore ctCore x.Kernel.Saved (((((((k + (tot ct1 x.Image.Text : Nat)) + (tot ct1 x.Image.Starts : Nat)) + 1) + (tot ct1 x.Mem : Nat)) + (tot ctCore x.Cores : Nat)) + (tot ctGate x.Kernel.Gates : Nat)) + (tot ct1 x.Kernel.Ready : Nat)), Over := mkL mkB ct1 x.Kernel.Over ((((((((k + (tot ct1 x.Image.Text : Nat)) + (tot ct1 x.Image.Starts : Nat)) + 1) + (tot ct1 x.Mem : Nat)) + (tot ctCore x.Cores : Nat)) + (tot ctGate x.Kernel.Gates : Nat)) + (tot ct1 x.Kernel.Ready : Nat)) + (tot ctCore x.Kernel.Saved : Nat)) }, Input := mkL mkI ct1 x.Input (((((((((k + (tot ct1 x.Image.Text : Nat)) + (tot ct1 x.Image.Starts : Nat)) + 1) + (tot ct1 x.Mem : Nat)) + (tot ctCore x.Cores : Nat)) + (tot ctGate x.Kernel.Gates : Nat)) + (tot ct1 x.Kernel.Ready : Nat)) + (tot ctCore x.Kernel.Saved : Nat)) + (tot ct1 x.Kernel.Over : Nat)), Events := mkL mkEvent ctEvent x.Events ((((((((((k + (tot ct1 x.Image.Text : Nat)) + (tot ct1 x.Image.Starts : Nat)) + 1) + (tot ct1 x.Mem : Nat)) + (tot ctCore x.Cores : Nat)) + (tot ctGate x.Kernel.Gates : Nat)) + (tot ct1 x.Kernel.Ready : Nat)) + (tot ctCore x.Kernel.Saved : Nat)) + (tot ct1 x.Kernel.Over : Nat)) + (tot ct1 x.Input : Nat)), Stopped := (decide (Int.tmod (((((((((((k + (tot ct1 x.Image.Text : Nat)) + (tot ct1 x.Image.Starts : Nat)) + 1) + (tot ct1 x.Mem : Nat)) + (tot ctCore x.Cores : Nat)) + (tot ctGate x.Kernel.Gates : Nat)) + (tot ct1 x.Kernel.Ready : Nat)) + (tot ctCore x.Kernel.Saved : Nat)) + (tot ct1 x.Kernel.Over : Nat)) + (tot ct1 x.Input : Nat)) + (tot ctEvent x.Events : Nat)) 3 = 0)) }
def ctMachine (x : DMachine) : Nat := tot ct1 x.Image.Text + tot ct1 x.Image.Starts + 1 + tot ct1 x.Mem + tot ctCore x.Cores + tot ctGate x.Kernel.Gates + tot ct1 x.Kernel.Ready + tot ctCore x.Kernel.Saved + tot ct1 x.Kernel.Over + tot ct1 x.Input + tot ctEvent x.Events + 1
theorem ctle_Machine (x : DMachine) : ctMachine x ≤ 3 * (1 + wtMachine x) := by
  have h0 := tot_ct1 x.Image.Text
  have h1 := tot_ct1 x.Image.Starts
  have h2 := tot_ct1 x.Mem
  have h3 := tctle_Core x.Cores
  have h4 := tctle_Gate x.Kernel.Gates
  have h5 := tot_ct1 x.Kernel.Ready
  have h6 := tctle_Core x.Kernel.Saved
  have h7 := tot_ct1 x.Kernel.Over
  have h8 := tot_ct1 x.Input
  have h9 := tctle_Event x.Events
  unfold ctMachine
  simp only [wtMachine, wtImage, wtKernel] at *
  omega
theorem tctle_Machine (xs : List DMachine) : tot ctMachine xs ≤ 3 * (xs.length + tot wtMachine xs) := tot_ct_le ctle_Machine xs
def mwMachine (x : DMachine) (k : Int) : DMachine := { Image := { Text := mkL mkI ct1 x.Image.Text k, Starts := mkL mkI ct1 x.Image.Starts (k + (tot ct1 x.Image.Text : Nat)), Size := x.Image.Size }, Mem := mkL mkI ct1 x.Mem ((k + (tot ct1 x.Image.Text : Nat)) + (tot ct1 x.Image.Starts : Nat)), Cores := mkL mkCore ctCore x.Cores (((k + (tot ct1 x.Image.Text : Nat)) + (tot ct1 x.Image.Starts : Nat)) + (tot ct1 x.Mem : Nat)), Kernel := { Gates := mkL mkGate ctGate x.Kernel.Gates ((((k + (tot ct1 x.Image.Text : Nat)) + (tot ct1 x.Image.Starts : Nat)) + (tot ct1 x.Mem : Nat)) + (tot ctCore x.Cores : Nat)), Ready := mkL mkI ct1 x.Kernel.Ready (((((k + (tot ct1 x.Image.Text : Nat)) + (tot ct1 x.Image.Starts : Nat)) + (tot ct1 x.Mem : Nat)) + (tot ctCore x.Cores : Nat)) + (tot ctGate x.Kernel.Gates : Nat)), Saved := mkL mkCore ctCore x.Kernel.Saved ((((((k + (tot ct1 x.Image.Text : Nat)) + (tot ct1 x.Image.Starts : Nat)) + (tot ct1 x.Mem : Nat)) + (tot ctCore x.Cores : Nat)) + (tot ctGate x.Kernel.Gates : Nat)) + (tot ct1 x.Kernel.Ready : Nat)), Over := mkL mkB ct1 x.Kernel.Over (((((((k + (tot ct1 x.Image.Text : Nat)) + (tot ct1 x.Image.Starts : Nat)) + (tot ct1 x.Mem : Nat)) + (tot ctCore x.Cores : Nat)) + (tot ctGate x.Kernel.Gates : Nat)) + (tot ct1 x.Kernel.Ready : Nat)) + (tot ctCore x.Kernel.Saved : Nat)) }, Input := mkL mkI ct1 x.Input ((((((((k + (tot ct1 x.Image.Text : Nat)) + (tot ct1 x.Image.Starts : Nat)) + (tot ct1 x.Mem : Nat)) + (tot ctCore x.Cores : Nat)) + (tot ctGate x.Kernel.Gates : Nat)) + (tot ct1 x.Kernel.Ready : Nat)) + (tot ctCore x.Kernel.Saved : Nat)) + (tot ct1 x.Kernel.Over : Nat)), Events := mkL mkEvent ctEvent x.Events (((((((((k + (tot ct1 x.Image.Text : Nat)) + (tot ct1 x.Image.Starts : Nat)) + (tot ct1 x.Mem : Nat)) + (tot ctCore x.Cores : Nat)) + (tot ctGate x.Kernel.Gates : Nat)) + (tot ct1 x.Kernel.Ready : Nat)) + (tot ctCore x.Kernel.Saved : Nat)) + (tot ct1 x.Kernel.Over : Nat)) + (tot ct1 x.Input : Nat)), Stopped := x.Stopped }
def cwMachine (x : DMachine) : Nat := tot ct1 x.Image.Text + tot ct1 x.Image.Starts + tot ct1 x.Mem + tot ctCore x.Cores + tot ctGate x.Kernel.Gates + tot ct1 x.Kernel.Ready + tot ctCore x.Kernel.Saved + tot ct1 x.Kernel.Over + tot ct1 x.Input + tot ctEvent x.Events
theorem set_cMachine {xs : List DMachine} {n : Nat} {x : DMachine} : (xs.map cMachine).set n [.tree 1 (x.Image.Text.map cI), .tree 1 (x.Image.Starts.map cI), .int .i64 x.Image.Size, .tree 1 (x.Mem.map cI), .tree 3 (x.Cores.map cCore), .tree 3 (x.Kernel.Gates.map cGate), .tree 1 (x.Kernel.Ready.map cI), .tree 3 (x.Kernel.Saved.map cCore), .tree 1 (x.Kernel.Over.map cB), .tree 1 (x.Input.map cI), .tree 3 (x.Events.map cEvent), .bool x.Stopped] = (xs.set n x).map cMachine := by rw [List.map_set]
theorem snoc_cMachine {xs : List DMachine} {x : DMachine} : xs.map cMachine ++ [[.tree 1 (x.Image.Text.map cI), .tree 1 (x.Image.Starts.map cI), .int .i64 x.Image.Size, .tree 1 (x.Mem.map cI), .tree 3 (x.Cores.map cCore), .tree 3 (x.Kernel.Gates.map cGate), .tree 1 (x.Kernel.Ready.map cI), .tree 3 (x.Kernel.Saved.map cCore), .tree 1 (x.Kernel.Over.map cB), .tree 1 (x.Input.map cI), .tree 3 (x.Events.map cEvent), .bool x.Stopped]] = (xs ++ [x]).map cMachine := by simp
theorem solid_cMachine {xs : List DMachine} : solid (xs.map cMachine) = true := solid_map fun _ => rfl
def FT := (And.intro (And.intro (And.intro (And.intro (And.intro @solid_cNode @solid_cEntry) (And.intro @solid_cMonitor (And.intro @solid_cProcess @solid_cProgram))) (And.intro (And.intro @solid_cGate (And.intro @solid_cEvent @solid_cIns)) (And.intro @solid_cCore (And.intro @solid_cLine @solid_cPlaces)))) (And.intro (And.intro (And.intro @solid_cImage (And.intro @solid_cKernel @solid_cMachine)) (And.intro @flat_cEntry (And.intro @flat_cEvent @flat_cIns))) (And.intro (And.intro @flat_cLine (And.intro @snoc_cNode @snoc_cEntry)) (And.intro @snoc_cMonitor (And.intro @snoc_cProcess @snoc_cProgram))))) (And.intro (And.intro (And.intro (And.intro @snoc_cGate @snoc_cEvent) (And.intro @snoc_cIns (And.intro @snoc_cCore @snoc_cLine))) (And.intro (And.intro @snoc_cPlaces (And.intro @snoc_cImage @snoc_cKernel)) (And.intro @snoc_cMachine (And.intro @set_cNode @set_cEntry)))) (And.intro (And.intro (And.intro @set_cMonitor (And.intro @set_cProcess @set_cProgram)) (And.intro @set_cGate (And.intro @set_cEvent @set_cIns))) (And.intro (And.intro @set_cCore (And.intro @set_cLine @set_cPlaces)) (And.intro @set_cImage (And.intro @set_cKernel @set_cMachine))))))
/-! the cursor of a draw: a box on the caller's heap; gcOk: what a call leaves is what was there -/
structure Cur where
  b : List UInt8
  i : Nat
  h : Int
abbrev cCur (c : Cur) : List AV := [.tree 1 (c.b.map cY), .int .i64 (c.i : Int), .int .i64 c.h]
def nextH (h : Int) : Int := IntKind.wrap .i64 (IntKind.wrap .i64 (h * 6364136223846793005) + 1442695040888963407)
def lowB (x : Int) : Int := IntKind.wrap .i64 (BitVec.ofInt 64 x &&& BitVec.ofInt 64 255).toNat
def s33 (x : Int) : Int := x.fdiv (2 ^ 33)
def s45 (x : Int) : Int := x.fdiv (2 ^ 45)
def xorI (x y : Int) : Int := IntKind.wrap .i64 (BitVec.ofInt 64 x ^^^ BitVec.ofInt 64 y).toNat
theorem b33 {w : Int} : bin .shr (.int .i64 w) (.int .u64 33) = some (.int .i64 (s33 w)) := rfl
theorem b45 {w : Int} : bin .shr (.int .i64 w) (.int .u64 45) = some (.int .i64 (s45 w)) := rfl
theorem bxor {x y : Int} : bin .xor (.int .i64 x) (.int .i64 y) = some (.int .i64 (xorI x y)) := rfl
theorem b255 {x : Int} : bin .and (.int .i64 x) (.int .i64 255) = some (.int .i64 (lowB x)) := rfl
def rawB (h : Int) : Int := lowB (xorI (s33 h) (s45 h))
def byteF (c : Cur) : Int × Cur := if hi : c.i < c.b.length then (lowB (IntKind.wrap .i64 (rawB (nextH c.h) + (c.b[c.i].toNat : Int))), ⟨c.b, c.i + 1, nextH c.h⟩) else (rawB (nextH c.h), ⟨c.b, c.i, nextH c.h⟩)
theorem lowB_bd {x : Int} : 0 ≤ lowB x ∧ lowB x < 256 := by
  unfold lowB
  have h : (BitVec.ofInt 64 x &&& BitVec.ofInt 64 255).toNat ≤ 255 := by
    rw [BitVec.toNat_and]
    exact Nat.le_trans Nat.and_le_right (by decide)
  rw [wrapI (by omega) (by omega)]
  omega
theorem fsem_spec_l01Byte (c : Cur) (hb : c.b.length ≤ 1048576) : H_spec_l01Byte [.ptr ⟨0, none, 0⟩ 3 0 0] [some ⟨true, 0, 3, [[.tree 1 (c.b.map cY), .int .i64 (c.i : Int), .int .i64 c.h]]⟩] = some (.int .i64 (byteF c).1, [some ⟨true, 0, 3, [[.tree 1 ((byteF c).2.b.map cY), .int .i64 ((byteF c).2.i : Int), .int .i64 (byteF c).2.h]]⟩]) := by
  obtain ⟨b, i, h⟩ := c
  simp only at hb
  have hn : IntKind.wrap .i64 (IntKind.wrap .i64 (h * 6364136223846793005) + 1442695040888963407) = nextH h := rfl
  have hx : ∀ x, lowB (xorI (s33 x) (s45 x)) = rawB x := fun _ => rfl
  rw [sh_spec_l01Byte, run_goF]
  by_cases hi : i < b.length
  · have hi' : (i : Int) < (b.length : Int) := by omega
    have e : byteF ⟨b, i, h⟩ = (lowB (IntKind.wrap .i64 (rawB (nextH h) + (b[i].toNat : Int))), ⟨b, i + 1, nextH h⟩) := by simp only [byteF, hi, dif_pos]
    have hgr := getRow cY b hi
    have hwb : IntKind.wrap .i64 (b[i].toNat : Int) = (b[i].toNat : Int) := by have := b[i].toNat_lt; exact wrapI (by omega) (by omega)
    simp only [cY] at hgr
    simp (maxSteps := 10000000) (disch := first | assumption | omega) only [F_spec_l01Byte, params, EG, EL, simprocAttr, FB, ED, FT, cx_spec_l01Byte, hn, b33, b45, bxor, b255, hx, hi, hi', wrap_succ, hgr, hwb, e]
  · have hi' : ¬ (i : Int) < (b.length : Int) := by omega
    have e : byteF ⟨b, i, h⟩ = (rawB (nextH h), ⟨b, i, nextH h⟩) := by simp only [byteF, hi, dif_neg, not_false_iff]
    simp (maxSteps := 10000000) (disch := first | assumption | omega) only [F_spec_l01Byte, params, EG, EL, simprocAttr, FB, ED, FT, cx_spec_l01Byte, hn, b33, b45, bxor, b255, hx, hi, hi', e]
theorem byteF_b {c : Cur} : (byteF c).2.b = c.b := by unfold byteF; split <;> rfl
theorem byteF_bd {c : Cur} : 0 ≤ (byteF c).1 ∧ (byteF c).1 < 256 := by unfold byteF rawB; split <;> exact lowB_bd
def belowF (n : Int) (c : Cur) : Int × Cur :=
  if n ≤ 0 then (0, c) else if n ≤ 256 then ((byteF c).1.tmod n, (byteF c).2) else
    (((byteF c).1 * 16777216 + (byteF (byteF c).2).1 * 65536 + (byteF (byteF (byteF c).2).2).1 * 256 + (byteF (byteF (byteF (byteF c).2).2).2).1).tmod n, (byteF (byteF (byteF (byteF c).2).2).2).2)
theorem belowF_b {n : Int} {c : Cur} : (belowF n c).2.b = c.b := by
  unfold belowF; split
  · rfl
  · split <;> simp only [byteF_b]
theorem tmod_bd {a n : Int} (h : 0 ≤ a) (h2 : 0 < n) : 0 ≤ a.tmod n ∧ a.tmod n < n := ⟨Int.tmod_nonneg _ h, Int.tmod_lt_of_pos _ h2⟩
theorem belowF_bd {n : Int} {c : Cur} (h : 0 < n) : 0 ≤ (belowF n c).1 ∧ (belowF n c).1 < n := by
  have h1 := @byteF_bd c
  have h2 := @byteF_bd (byteF c).2
  have h3 := @byteF_bd (byteF (byteF c).2).2
  have h4 := @byteF_bd (byteF (byteF (byteF c).2).2).2
  unfold belowF
  rw [if_neg (by omega)]
  split
  · exact tmod_bd h1.1 h
  · exact tmod_bd (by omega) h
set_option maxHeartbeats 2000000 in
theorem fsem_spec_l01Below (c : Cur) (n : Int) (hb : c.b.length ≤ 1048576) : H_spec_l01Below [.ptr ⟨0, none, 0⟩ 3 0 0, .int .i64 n] [some ⟨true, 0, 3, [[.tree 1 (c.b.map cY), .int .i64 (c.i : Int), .int .i64 c.h]]⟩] = some (.int .i64 (belowF n c).1, [some ⟨true, 0, 3, [[.tree 1 ((belowF n c).2.b.map cY), .int .i64 ((belowF n c).2.i : Int), .int .i64 (belowF n c).2.h]]⟩]) := by
  have k1 := fsem_spec_l01Byte c hb
  have k2 := fsem_spec_l01Byte (byteF c).2 (by rw [byteF_b]; exact hb)
  have k3 := fsem_spec_l01Byte (byteF (byteF c).2).2 (by rw [byteF_b, byteF_b]; exact hb)
  have k4 := fsem_spec_l01Byte (byteF (byteF (byteF c).2).2).2 (by rw [byteF_b, byteF_b, byteF_b]; exact hb)
  have d1 := @byteF_bd c
  have d2 := @byteF_bd (byteF c).2
  have d3 := @byteF_bd (byteF (byteF c).2).2
  have d4 := @byteF_bd (byteF (byteF (byteF c).2).2).2
  rw [sh_spec_l01Below, run_goF]
  unfold belowF
  by_cases h0 : n ≤ 0
  · simp (maxSteps := 10000000) (disch := first | assumption | omega) only [F_spec_l01Below, params, EG, EL, simprocAttr, FB, ED, FT, cx_spec_l01Below, h0]
  · by_cases h2 : n ≤ 256
    · have hn0 : ¬ n = 0 := by omega
      simp (maxSteps := 10000000) (disch := first | assumption | omega) only [F_spec_l01Below, params, EG, EL, simprocAttr, FB, ED, EF, FT, cx_spec_l01Below, h0, h2, hn0, cl_spec_l01Byte, k1]
    · have hn0 : ¬ n = 0 := by omega
      simp (maxSteps := 10000000) (disch := first | assumption | omega) only [F_spec_l01Below, params, EG, EL, simprocAttr, FB, ED, EF, FT, cx_spec_l01Below, h0, h2, hn0, cl_spec_l01Byte, k1, k2, k3, k4, wrapI]
def andH (x : Int) : Int := IntKind.wrap .i64 (BitVec.ofInt 64 x &&& BitVec.ofInt 64 1073741823).toNat
theorem bandH {x : Int} : bin .and (.int .i64 x) (.int .i64 1073741823) = some (.int .i64 (andH x)) := rfl
def stepH (h : Int) (b : UInt8) : Int := andH (IntKind.wrap .i64 (IntKind.wrap .i64 (IntKind.wrap .i64 (h * 131) + (b.toNat : Int)) + 7))
def hashF : List UInt8 → Int → Int
  | [], h => h
  | b :: r, h => hashF r (stepH h b)
theorem loop_l01New (bs : List UInt8) (hb : bs.length ≤ 1048576) (h0 : Int) : loopV X_spec_l01New 0 [0, 3, 4] [(1, [0, 3])] B0_spec_l01New ⟨[(0, .tree 1 (bs.map cY)), (3, .int .i64 h0), (4, .int .i64 0)], []⟩ = some (.exit 0, ⟨[(0, .tree 1 (bs.map cY)), (3, .int .i64 (hashF (bs.take 4000) h0))], []⟩) := by
  refine loop_list (bs.take 4000) (fun _ (_ : Int) => True) (fun i h => ⟨[(0, .tree 1 (bs.map cY)), (3, .int .i64 h), (4, .int .i64 ((i : Nat) : Int))], []⟩) (fun rest h => some (.exit 0, ⟨[(0, .tree 1 (bs.map cY)), (3, .int .i64 (hashF rest h))], []⟩)) ?_ ?_ h0 trivial
  · intro h _
    have hl : (bs.take 4000).length = min 4000 bs.length := by simp
    rw [loopV_by B0_spec_l01New.eq_1]
    by_cases hc : bs.length ≤ 4000
    · have : (bs.take 4000).length = bs.length := by omega
      simp (maxSteps := 10000000) (disch := first | assumption | omega) only [EG, EL, simprocAttr, FB, this, int_lt_irrefl, hashF]
    · have : (bs.take 4000).length = 4000 := by omega
      have h2 : ((4000 : Nat) : Int) < (bs.length : Int) := by omega
      have h3 : ¬ ((4000 : Nat) : Int) < 4000 := by omega
      simp (maxSteps := 10000000) (disch := first | assumption | omega) only [EG, EL, simprocAttr, FB, this, h2, h3, hashF]
      split <;> rfl
  · rintro i hi0 y rest h rfl rfl _ ih
    have hl : (bs.take 4000).length = min 4000 bs.length := by simp
    have hi : i < bs.length := by omega
    have hi' : (i : Int) < (bs.length : Int) := by omega
    have h4 : (i : Int) < 4000 := by omega
    have hge : (bs.take 4000)[i] = bs[i] := List.getElem_take
    have hgr := getRow cY bs hi
    have hwb : IntKind.wrap .i64 (bs[i].toNat : Int) = (bs[i].toNat : Int) := by have := bs[i].toNat_lt; exact wrapI (by omega) (by omega)
    simp only [cY] at hgr
    have i1 := ih (stepH h bs[i]) trivial
    have hst : andH (IntKind.wrap .i64 (IntKind.wrap .i64 (IntKind.wrap .i64 (h * 131) + (bs[i].toNat : Int)) + 7)) = stepH h bs[i] := rfl
    rw [loopV_by B0_spec_l01New.eq_1, hge]
    simp (maxSteps := 10000000) (disch := first | assumption | omega) only [EG, EL, simprocAttr, FB, ED, FT, cx_spec_l01New, hi', h4, hgr, wrap_succ, hwb, bandH, hst, i1, hashF]
def curNew (bs : List UInt8) : Cur := ⟨bs, 0, hashF (bs.take 4000) (IntKind.wrap .i64 (76401 + (bs.length : Int)))⟩
theorem fsem_spec_l01New (bs : List UInt8) (hb : bs.length ≤ 1048576) : H_spec_l01New [.tree 1 (bs.map cY)] [] = some (.ptr ⟨0, none, 0⟩ 3 0 0, [some ⟨true, 0, 3, [[.tree 1 ((curNew bs).b.map cY), .int .i64 ((curNew bs).i : Int), .int .i64 (curNew bs).h]]⟩]) := by
  have l := loop_l01New bs hb (IntKind.wrap .i64 (76401 + (bs.length : Int)))
  rw [sh_spec_l01New, run_goF]
  simp (maxSteps := 10000000) (disch := first | assumption | omega) only [F_spec_l01New, params, EG, EL, simprocAttr, FB, ED, FT, cx_spec_l01New, l, curNew]
def isLab (l : ByteArray) (x : DLine) : Bool := decide (x.Ins.Op = 0) && decide (x.Label = l)
def isIns (x : DLine) : Bool := !decide (x.Ins.Op = 0)
theorem sem_spec_l16First (xs : List DLine) (l : ByteArray) (hl : xs.length ≤ 140737488351232) : S_spec_l16First.sem [.tree 6 (xs.map cLine), .str l] = some (.int .i64 (fIx (isLab l) xs 0), []) := by
  have loop : loopV X_spec_l16First 0 [0, 1, 5] [(1, []), (0, [4])] B0_spec_l16First ⟨[(0, .tree 6 (xs.map cLine)), (1, .str l), (5, .int .i64 0)], []⟩ = fixR 4 (fIx (isLab l) xs 0) := by
    refine loop_list xs (fun i a => a = i) (fun i a => ⟨[(0, .tree 6 (xs.map cLine)), (1, .str l), (5, .int .i64 (i : Int))], []⟩) (fun rest a => fixR 4 (fIx (isLab l) rest a)) ?_ ?_ 0 rfl
    · rintro a rfl
      rw [loopV_by B0_spec_l16First.eq_1]
      simp only [EG, EL, simprocAttr, FB, int_lt_irrefl]
      exact fixR_nil
    · rintro i h x rest a rfl rfl rfl ih
      have hi : (a : Int) < (xs.length : Int) := by omega
      rw [loopV_by B0_spec_l16First.eq_1]
      simp (disch := first | assumption | omega) only [EG, EL, simprocAttr, FB, hi, wrap_succ, getRow _ _ h, ih _ rfl]
      by_cases h1 : xs[a].Ins.Op = 0 <;> by_cases h2 : xs[a].Label = l <;> simp only [h1, h2, if_true, if_false]
      · exact fixR_yes (by simp [isLab, h1, h2])
      all_goals exact fixR_no (by simp [isLab, h1, h2])
  rw [sg_spec_l16First, sem_go]
  simp (disch := first | assumption | omega) only [F_spec_l16First, params, EG, EL, simprocAttr, FB, loop, goE_fixR]
  rcases @fIx_ge _ (isLab l) xs 0 with h | h
  · simp [h]
  · rw [if_neg (by omega)]
theorem sem_spec_CountOf (xs : List DLine) (hl : xs.length ≤ 140737488351232) : S_spec_CountOf.sem [.tree 6 (xs.map cLine)] = some (.int .i64 (cnt isIns xs), []) := by
  have loop : loopV X_spec_CountOf 0 [0, 3, 4] [(1, [3])] B0_spec_CountOf ⟨[(0, .tree 6 (xs.map cLine)), (3, .int .i64 0), (4, .int .i64 0)], []⟩ = some (.exit 0, ⟨[(3, .int .i64 ((0 + cnt isIns xs : Nat) : Int))], []⟩) := by
    refine loop_list xs (fun i a => a ≤ i) (fun i a => ⟨[(0, .tree 6 (xs.map cLine)), (3, .int .i64 (a : Int)), (4, .int .i64 (i : Int))], []⟩) (fun rest a => some (.exit 0, ⟨[(3, .int .i64 ((a + cnt isIns rest : Nat) : Int))], []⟩)) ?_ ?_ 0 (Nat.le_refl _)
    · intro a ha
      rw [loopV_by B0_spec_CountOf.eq_1]
      simp only [EG, EL, simprocAttr, FB, int_lt_irrefl, cnt]
    · rintro i h x rest a rfl rfl ha ih
      have hi : (i : Int) < (xs.length : Int) := by omega
      rw [loopV_by B0_spec_CountOf.eq_1]
      simp (disch := first | assumption | omega) only [EG, EL, simprocAttr, FB, hi, wrap_succ, getRow _ _ h, cnt, isIns]
      by_cases h1 : xs[i].Ins.Op = 0 <;> simp only [h1, if_true, if_false, Bool.false_eq_true, decide_true, decide_false, Bool.not_true, Bool.not_false]
      · rw [ih _ (by omega), Nat.zero_add]
      · rw [ih _ (by omega), Nat.add_assoc]
  rw [sg_spec_CountOf, sem_go]
  simp (disch := first | assumption | omega) only [F_spec_CountOf, params, EG, EL, simprocAttr, FB, loop]
theorem sem_spec_PlaceOf (xs : List DLine) (l : ByteArray) (hl : xs.length ≤ 140737488351232) : S_spec_PlaceOf.sem [.tree 6 (xs.map cLine), .str l] = some (.int .i64 (if fIx (isLab l) xs 0 < 0 then -1 else cnt isIns (xs.take (fIx (isLab l) xs 0).toNat)), []) := by
  rw [sg_spec_PlaceOf, sem_go]
  rcases @fIx_ge _ (isLab l) xs 0 with h | h
  · simp (disch := first | assumption | omega) only [F_spec_PlaceOf, params, EG, EL, simprocAttr, FB, cx_spec_PlaceOf, cl_spec_l16First, sem_spec_l16First, h, neg1_lt]
  · have h0 : ¬ fIx (isLab l) xs 0 < 0 := by omega
    have h1 : 0 ≤ fIx (isLab l) xs 0 := by omega
    have h2 : fIx (isLab l) xs 0 ≤ xs.length := by omega
    have h3 : (xs.take (fIx (isLab l) xs 0).toNat).length ≤ 140737488351232 := by rw [List.length_take]; omega
    simp (disch := first | assumption | omega) only [F_spec_PlaceOf, params, EG, EL, simprocAttr, FB, cx_spec_PlaceOf, cl_spec_l16First, sem_spec_l16First, h0, h1, h2, seg_mapD, Nat.sub_zero, cl_spec_CountOf, sem_spec_CountOf]
theorem sem_slices_IndexFunc_impl_Line_impl_Line (xs : List DLine) (l : ByteArray) (hl : xs.length ≤ 140737488351232) : S_slices_IndexFunc_impl_Line_impl_Line.sem [.tree 6 (xs.map cLine), .fn 46 [.rp [.str l] 0]] = some (.int .i64 (fIx (isLab l) xs 0), []) := by
  have loop : loopV X_slices_IndexFunc_impl_Line_impl_Line 0 [0, 1, 7, 8] [(1, []), (0, [4])] B0_slices_IndexFunc_impl_Line_impl_Line ⟨[(0, .tree 6 (xs.map cLine)), (1, .fn 46 [.rp [.str l] 0]), (7, .int .i64 xs.length), (8, .int .i64 0)], []⟩ = fixR 4 (fIx (isLab l) xs 0) := by
    refine loop_list xs (fun i a => a = i) (fun i a => ⟨[(0, .tree 6 (xs.map cLine)), (1, .fn 46 [.rp [.str l] 0]), (7, .int .i64 xs.length), (8, .int .i64 (i : Int))], []⟩) (fun rest a => fixR 4 (fIx (isLab l) rest a)) ?_ ?_ 0 rfl
    · rintro a rfl
      rw [loopV_by B0_slices_IndexFunc_impl_Line_impl_Line.eq_1]
      simp only [EG, EL, simprocAttr, FB, int_lt_irrefl]
      exact fixR_nil
    · rintro i h x rest a rfl rfl rfl ih
      have hi : (a : Int) < (xs.length : Int) := by omega
      rw [loopV_by B0_slices_IndexFunc_impl_Line_impl_Line.eq_1]
      simp (disch := first | assumption | omega) only [EG, EL, simprocAttr, FB, hi, wrap_succ, getRow _ _ h, ih _ rfl, cx_slices_IndexFunc_impl_Line_impl_Line, cl_impl_labelAt_1, run_goF, F_impl_labelAt_1, params]
      by_cases h1 : xs[a].Ins.Op = 0 <;> by_cases h2 : xs[a].Label = l <;> simp only [h1, h2, if_true, if_false]
      · exact fixR_yes (by simp [isLab, h1, h2])
      all_goals exact fixR_no (by simp [isLab, h1, h2])
  rw [sg_slices_IndexFunc_impl_Line_impl_Line, sem_go]
  simp (disch := first | assumption | omega) only [F_slices_IndexFunc_impl_Line_impl_Line, params, EG, EL, simprocAttr, FB, loop, goE_fixR]
  rcases @fIx_ge _ (isLab l) xs 0 with h | h
  · simp [h]
  · rw [if_neg (by omega)]
theorem sem_impl_labelAt (xs : List DLine) (l : ByteArray) (hl : xs.length ≤ 140737488351232) : S_impl_labelAt.sem [.tree 6 (xs.map cLine), .str l] = some (.int .i64 (fIx (isLab l) xs 0), []) := by
  rw [sg_impl_labelAt, sem_go]
  simp (disch := first | assumption | omega) only [F_impl_labelAt, params, EG, EL, simprocAttr, FB, cx_impl_labelAt, cl_slices_IndexFunc_impl_Line_impl_Line, sem_slices_IndexFunc_impl_Line_impl_Line]
theorem sem_impl_CountOf (xs : List DLine) (hl : xs.length ≤ 140737488351232) : S_impl_CountOf.sem [.tree 6 (xs.map cLine)] = some (.int .i64 (cnt isIns xs), []) := by
  have loop : loopV X_impl_CountOf 0 [3, 6, 7, 8] [(1, [3])] B0_impl_CountOf ⟨[(3, .int .i64 0), (6, .tree 6 (xs.map cLine)), (7, .int .i64 xs.length), (8, .int .i64 0)], []⟩ = some (.exit 0, ⟨[(3, .int .i64 ((0 + cnt isIns xs : Nat) : Int))], []⟩) := by
    refine loop_list xs (fun i a => a ≤ i) (fun i a => ⟨[(3, .int .i64 (a : Int)), (6, .tree 6 (xs.map cLine)), (7, .int .i64 xs.length), (8, .int .i64 (i : Int))], []⟩) (fun rest a => some (.exit 0, ⟨[(3, .int .i64 ((a + cnt isIns rest : Nat) : Int))], []⟩)) ?_ ?_ 0 (Nat.le_refl _)
    · intro a ha
      rw [loopV_by B0_impl_CountOf.eq_1]
      simp only [EG, EL, simprocAttr, FB, int_lt_irrefl, cnt]
    · rintro i h x rest a rfl rfl ha ih
      have hi : (i : Int) < (xs.length : Int) := by omega
      rw [loopV_by B0_impl_CountOf.eq_1]
      simp (disch := first | assumption | omega) only [EG, EL, simprocAttr, FB, hi, wrap_succ, getRow _ _ h, cnt, isIns]
      by_cases h1 : xs[i].Ins.Op = 0 <;> simp only [h1, if_true, if_false, Bool.false_eq_true, decide_true, decide_false, Bool.not_true, Bool.not_false]
      · rw [ih _ (by omega), Nat.zero_add]
      · rw [ih _ (by omega), Nat.add_assoc]
  rw [sg_impl_CountOf, sem_go]
  simp (disch := first | assumption | omega) only [F_impl_CountOf, params, EG, EL, simprocAttr, FB, loop]
theorem sem_impl_PlaceOf (xs : List DLine) (l : ByteArray) (hl : xs.length ≤ 140737488351232) : S_impl_PlaceOf.sem [.tree 6 (xs.map cLine), .str l] = some (.int .i64 (if fIx (isLab l) xs 0 < 0 then -1 else cnt isIns (xs.take (fIx (isLab l) xs 0).toNat)), []) := by
  rw [sg_impl_PlaceOf, sem_go]
  rcases @fIx_ge _ (isLab l) xs 0 with h | h
  · simp (disch := first | assumption | omega) only [F_impl_PlaceOf, params, EG, EL, simprocAttr, FB, cx_impl_PlaceOf, cl_impl_labelAt, sem_impl_labelAt, h, neg1_lt]
  · have h0 : ¬ fIx (isLab l) xs 0 < 0 := by omega
    have h1 : 0 ≤ fIx (isLab l) xs 0 := by omega
    have h2 : fIx (isLab l) xs 0 ≤ xs.length := by omega
    have h3 : (xs.take (fIx (isLab l) xs 0).toNat).length ≤ 140737488351232 := by rw [List.length_take]; omega
    simp (disch := first | assumption | omega) only [F_impl_PlaceOf, params, EG, EL, simprocAttr, FB, cx_impl_PlaceOf, cl_impl_labelAt, sem_impl_labelAt, h0, h1, h2, seg_mapD, Nat.sub_zero, cl_impl_CountOf, sem_impl_CountOf]
/-! gates -/
/-- In line, each in 0 .. 3 and none of those seen. -/
def freshB (seen : List Int) : List Int → Bool
  | [] => true
  | x :: xs => decide (0 ≤ x ∧ x ≤ 3) && (decide (x ∉ seen) && freshB (seen ++ [x]) xs)
def qfreshB (seen : List Int) : List Int → Bool
  | [] => true
  | x :: xs => if x = -1 then qfreshB (seen ++ [x]) xs else decide (0 ≤ x ∧ x ≤ 3) && (decide (x ∉ seen) && qfreshB (seen ++ [x]) xs)
def somebody (xs : List Int) : List Int := xs.filter (fun x => decide (x ≠ -1))
theorem freshB_app : ∀ (xs ys seen : List Int), freshB seen (xs ++ ys) = (freshB seen xs && freshB (seen ++ xs) ys)
  | [], ys, seen => by simp [freshB]
  | x :: xs, ys, seen => by
    simp only [List.cons_append, freshB, freshB_app xs ys (seen ++ [x]), List.append_assoc, List.singleton_append, List.nil_append, Bool.and_assoc]
theorem freshB_mem : ∀ (xs seen : List Int), freshB seen xs = true → ∀ x ∈ xs, 0 ≤ x ∧ x ≤ 3
  | [], _, _, x, hx => by simp at hx
  | y :: ys, seen, h, x, hx => by
    unfold freshB at h
    simp only [Bool.and_eq_true, decide_eq_true_eq] at h
    rcases List.mem_cons.1 hx with rfl | hx
    · exact h.1
    · exact freshB_mem ys _ h.2.2 x hx
theorem qfreshB_eq : ∀ (xs seen : List Int), qfreshB seen xs = freshB (somebody seen) (somebody xs)
  | [], seen => rfl
  | x :: xs, seen => by
    unfold qfreshB
    rw [qfreshB_eq xs (seen ++ [x])]
    by_cases h : x = -1
    · subst h
      simp [somebody]
    · have hm : x ∈ somebody seen ↔ x ∈ seen := by simp [somebody, h]
      rw [if_neg h]
      have e : somebody (x :: xs) = x :: somebody xs := by simp [somebody, h]
      rw [e]
      have e2 : somebody (seen ++ [x]) = somebody seen ++ [x] := by simp [somebody, h]
      rw [e2]
      conv => rhs; unfold freshB
      simp only [hm]
/-- A right gate. -/
def gateOk (owner : Int) (waits queues : List Int) : Bool :=
  decide (queues.length ≤ 2) && (freshB [] ((if owner = -1 then [] else [owner]) ++ waits ++ somebody queues) && decide (owner ≠ -1 ∨ waits.length = 0))
theorem gateOk_low {owner : Int} {waits queues : List Int} (h : ¬ (-1 ≤ owner ∧ owner ≤ 3)) : gateOk owner waits queues = false := by
  unfold gateOk
  rw [if_neg (by omega)]
  simp only [List.cons_append, List.nil_append]
  unfold freshB
  have : ¬ (0 ≤ owner ∧ owner ≤ 3) := by omega
  simp [this]
def inGate (owner : Int) (waits queues : List Int) : List Int := (if owner = -1 then [] else [owner]) ++ waits ++ somebody queues
theorem inGate_len (owner : Int) (waits queues : List Int) : (inGate owner waits queues).length ≤ 1 + waits.length + queues.length := by
  unfold inGate somebody
  have := List.length_filter_le (fun x : Int => decide (x ≠ -1)) queues
  rw [List.length_append, List.length_append]
  split <;> simp only [List.length_nil, List.length_cons] <;> omega
/-- How the reference tells a right gate. -/
theorem gateOk_spec (owner : Int) (waits queues : List Int) : gateOk owner waits queues = (decide (-1 ≤ owner ∧ owner ≤ 3) && (decide (queues.length ≤ 2) && (!(decide (owner < 0) && decide (0 < waits.length)) && (freshB (if 0 ≤ owner then [owner] else []) waits && qfreshB ((if 0 ≤ owner then [owner] else []) ++ waits) queues)))) := by
  by_cases h1 : -1 ≤ owner ∧ owner ≤ 3
  · by_cases h3 : owner < 0
    · have ho : owner = -1 := by omega
      subst ho
      by_cases h4 : waits = []
      · subst h4
        rw [qfreshB_eq]
        simp [gateOk, freshB, somebody]
      · have : ¬ waits.length = 0 := by simpa using h4
        simp [gateOk, h4, List.length_pos_iff]
    · have ho : ¬ owner = -1 := by omega
      have ho2 : 0 ≤ owner ∧ owner ≤ 3 := by omega
      rw [if_pos ho2.1, qfreshB_eq]
      unfold gateOk
      rw [if_neg ho, freshB_app ([owner] ++ waits), freshB_app [owner]]
      have e1 : freshB [] [owner] = true := by simp [freshB, ho2]
      rw [e1]
      simp only [h1, h3, and_self, decide_true, decide_false, Bool.true_and, List.nil_append, ho, not_false_eq_true, true_or, ne_eq, Bool.and_true, Bool.false_and, Bool.not_false]
      cases hf : freshB [owner] waits with
      | false => simp
      | true =>
        have hm := freshB_mem _ _ hf
        have e2 : somebody ([owner] ++ waits) = [owner] ++ waits := by
          unfold somebody
          rw [List.filter_eq_self]
          intro x hx
          rcases List.mem_append.1 hx with hx | hx
          · have := List.mem_singleton.1 hx
            exact decide_eq_true (by omega)
          · have := hm x hx
            exact decide_eq_true (by omega)
        rw [e2]
  · rw [gateOk_low h1]
    simp [h1]
theorem map_cI_snoc {xs : List Int} {y : Int} : xs.map cI ++ [[.int .i64 y]] = (xs ++ [y]).map cI := by simp
theorem map_cI_app {xs ys : List Int} : xs.map cI ++ ys.map cI = (xs ++ ys).map cI := by simp
theorem map_cI_one {y : Int} : [[AV.int .i64 y]] = [y].map cI := rfl
/-- A loop that goes on, or gives false. -/
def okR (b : Bool) (e : Nat) (s : St) (t : Nat) : Option (Ex × St) := if b = true then some (.exit e, s) else some (.ret, ⟨[(t, .bool false)], []⟩)
theorem okR_true {e t : Nat} {s : St} : okR true e s t = some (.exit e, s) := rfl
theorem okR_false {e t : Nat} {s : St} : okR false e s t = some (.ret, ⟨[(t, .bool false)], []⟩) := rfl
theorem goE_okR {ctx : Ctx} {base : Nat} {b : Bool} {e t : Nat} {s : St} {K : List Fr} : goE ctx base (okR b e s t) K = if b = true then unw ctx base K (.exit e) s else unw ctx base K .ret ⟨[(t, .bool false)], []⟩ := by
  unfold okR; split <;> rfl
theorem mem_fIx {xs : List Int} {x : Int} : ∀ {i : Nat}, (0 ≤ fIx (fun y => decide (x = y)) xs i) = (x ∈ xs) := by
  induction xs with
  | nil => intro i; simp [fIx]
  | cons y ys ih =>
    intro i
    by_cases h : x = y
    · subst h; simp [fIx]
    · simp only [fIx, h, decide_false, Bool.false_eq_true, if_false, ih, List.mem_cons, false_or]
theorem sem_spec_l01In (a lo hi : Int) : S_spec_l01In.sem [.int .i64 a, .int .i64 lo, .int .i64 hi] = some (.bool (decide (lo ≤ a ∧ a ≤ hi)), []) := by
  rw [sg_spec_l01In, sem_go]
  simp (maxSteps := 10000000) (disch := first | assumption | omega) only [F_spec_l01In, params, EG, EL, simprocAttr, FB, cx_spec_l01In]
  by_cases h1 : lo ≤ a <;> by_cases h2 : a ≤ hi <;> simp [h1, h2]
theorem sem_impl_within (a lo hi : Int) : S_impl_within.sem [.int .i64 a, .int .i64 lo, .int .i64 hi] = some (.bool (decide (lo ≤ a ∧ a ≤ hi)), []) := by
  rw [sg_impl_within, sem_go]
  simp (maxSteps := 10000000) (disch := first | assumption | omega) only [F_impl_within, params, EG, EL, simprocAttr, FB, cx_impl_within]
  by_cases h1 : lo ≤ a <;> by_cases h2 : a ≤ hi <;> simp [h1, h2]
def nextG (x : DGate) : DGate := match x.Waits with | [] => { x with Owner := -1 } | w :: ws => { x with Owner := w, Waits := ws }
def leaveG (x : DGate) : DGate × Int := if gateOk x.Owner x.Waits x.Queues = true ∧ x.Owner ≠ -1 then (nextG x, (nextG x).Owner) else (x, -1)
theorem gateOk_range {o : Int} {w q : List Int} (h : gateOk o w q = true) : -1 ≤ o ∧ o ≤ 3 := by
  by_cases h1 : -1 ≤ o ∧ o ≤ 3
  · exact h1
  · rw [gateOk_low h1] at h; cases h
def delayG (x : DGate) (q : Int) : DGate × Int × Bool := if gateOk x.Owner x.Waits x.Queues = true ∧ x.Owner ≠ -1 ∧ (0 ≤ q ∧ q ≤ (x.Queues.length : Int) - 1) ∧ x.Queues.getD q.toNat 0 = -1 then ({ nextG x with Queues := x.Queues.set q.toNat x.Owner }, (nextG x).Owner, true) else (x, -1, false)
def contG (x : DGate) (q : Int) : DGate × Int := if gateOk x.Owner x.Waits x.Queues = true ∧ x.Owner ≠ -1 ∧ (0 ≤ q ∧ q ≤ (x.Queues.length : Int) - 1) then (if x.Queues.getD q.toNat 0 = -1 then (nextG x, (nextG x).Owner) else ({ x with Owner := x.Queues.getD q.toNat 0, Queues := x.Queues.set q.toNat (-1) }, x.Queues.getD q.toNat 0)) else (x, -1)
theorem gateOk_queue {o : Int} {w q : List Int} (h : gateOk o w q = true) {i : Nat} (hi : i < q.length) : q[i] = -1 ∨ (0 ≤ q[i] ∧ q[i] ≤ 3) := by
  unfold gateOk at h
  simp only [Bool.and_eq_true] at h
  by_cases h1 : q[i] = -1
  · exact .inl h1
  · right
    refine freshB_mem _ _ h.2.1 _ ?_
    simp only [List.mem_append]
    right
    unfold somebody
    rw [List.mem_filter]
    exact ⟨List.getElem_mem hi, by simpa using h1⟩
def arriveG (x : DGate) (i : Int) : DGate × Bool := if gateOk x.Owner x.Waits x.Queues = true ∧ (0 ≤ i ∧ i ≤ 3) ∧ ¬ (x.Owner = i ∨ i ∈ x.Waits ∨ i ∈ x.Queues) then (if x.Owner = -1 then ({ x with Owner := i }, true) else ({ x with Waits := x.Waits ++ [i] }, false)) else (x, false)
theorem mem_inGate {o : Int} {w q : List Int} {i : Int} (h : 0 ≤ i) : i ∈ inGate o w q ↔ (o = i ∨ i ∈ w ∨ i ∈ q) := by
  have h1 : i ≠ -1 := by omega
  have h2 : ¬ i = -1 := h1
  unfold inGate somebody
  by_cases ho : o = -1
  · subst ho; have h3 : ¬ (-1 : Int) = i := by omega
    simp [h2, h3]
  · simp [ho, h2, eq_comm]
def coreNew : DCore := ⟨List.replicate 8 0, 0, -1⟩
def holdK (x : DKernel) (c : DCore) : DKernel := if 0 ≤ c.Process ∧ c.Process ≤ (x.Saved.length : Int) - 1 then { x with Saved := x.Saved.set c.Process.toNat c } else x
def wakeK (x : DKernel) (p : Int) : DKernel := if (0 ≤ p ∧ p ≤ (x.Saved.length : Int) - 1) ∧ p ∉ x.Ready then { x with Ready := x.Ready ++ [p] } else x
def pickK (x : DKernel) : DKernel × DCore × Bool := match x.Ready with | [] => (x, coreNew, false) | r :: rs => if 0 ≤ r ∧ r ≤ (x.Saved.length : Int) - 1 then ({ x with Ready := rs }, x.Saved.getD r.toNat coreNew, true) else (x, coreNew, false)
def gateNew (n : Int) : DGate := ⟨-1, [], if 0 < n then (if 1 < n then [-1, -1] else [-1]) else []⟩
theorem wrap_one : IntKind.wrap .i64 (0 + 1) = 1 := by decide
theorem wrap_two : IntKind.wrap .i64 (1 + 1) = 2 := by decide
theorem min2_0 {n : Int} : (0 < (if 2 < n then 2 else n)) = (0 < n) := by split <;> simp <;> omega
theorem min2_1 {n : Int} : (1 < (if 2 < n then 2 else n)) = (1 < n) := by split <;> simp <;> omega
theorem min2_2 {n : Int} : (2 < (if 2 < n then 2 else n)) = False := by split <;> simp <;> omega
def procCore (x : DImage) (i : Nat) : DCore := ⟨List.replicate 8 0, if h : i < x.Starts.length then x.Starts[i] else 0, i⟩
def coresF (x : DImage) : List DProcess → Nat → List DCore
  | [], _ => []
  | _ :: r, i => procCore x i :: coresF x r (i + 1)
def readyF : List DProcess → Nat → List Int
  | [], _ => []
  | _ :: r, i => (i : Int) :: readyF r (i + 1)
def overF : List DProcess → List Bool
  | [] => []
  | _ :: r => false :: overF r
def monG (m : DMonitor) : DGate := gateNew m.Queues.length
def kernelNew (p : DProgram) (x : DImage) : DKernel := ⟨p.Monitors.map monG, readyF p.Processes 0, coresF x p.Processes 0, overF p.Processes⟩
theorem gateNew_len {n : Int} : (gateNew n).Waits.length + (gateNew n).Queues.length ≤ 2 := by
  unfold gateNew; split <;> (try split) <;> simp
theorem tot_monG : ∀ {ms : List DMonitor}, tot wtGate (ms.map monG) ≤ 2 * ms.length
  | [] => Nat.le_refl _
  | m :: ms => by
    have := @tot_monG ms
    have h := @gateNew_len (m.Queues.length : Int)
    simp only [List.map_cons, tot, List.length_cons, monG, wtGate] at *
    omega
theorem coresF_tot {x : DImage} : ∀ {ps : List DProcess} {i : Nat}, tot wtCore (coresF x ps i) = 8 * ps.length ∧ (coresF x ps i).length = ps.length ∧ (readyF ps i).length = ps.length ∧ (overF ps).length = ps.length
  | [], _ => ⟨rfl, rfl, rfl, rfl⟩
  | p :: ps, i => by
    obtain ⟨a, b, c, d⟩ := @coresF_tot x ps (i + 1)
    simp only [coresF, readyF, overF, tot, List.length_cons, wtCore, procCore, List.length_replicate] at *
    omega
def insOk (op a b c : Int) : Bool := decide ((1 ≤ op ∧ op ≤ 10) ∧ (0 ≤ a ∧ a ≤ 7) ∧ (0 ≤ b ∧ b ≤ 7) ∧ (0 ≤ c ∧ c ≤ 4194303) ∧ (op = 4 ∨ b = 0) ∧ (op ≠ 1 ∨ c ≤ 1000000) ∧ (op ≠ 4 ∨ (1 ≤ c ∧ c ≤ 9)) ∧ ((op ≠ 5 ∧ op ≠ 6) ∨ c = 0) ∧ (op ≠ 8 ∨ a = 0) ∧ (op ≠ 10 ∨ 1 ≤ a))
theorem insOk_no {op a b c : Int} (h : ¬ ((1 ≤ op ∧ op ≤ 10) ∧ (0 ≤ a ∧ a ≤ 7) ∧ (0 ≤ b ∧ b ≤ 7) ∧ (0 ≤ c ∧ c ≤ 4194303) ∧ (op = 4 ∨ b = 0))) : insOk op a b c = false := by
  unfold insOk; apply decide_eq_false; omega
theorem insOk_t {op a b c : Int} (h : (1 ≤ op ∧ op ≤ 10) ∧ (0 ≤ a ∧ a ≤ 7) ∧ (0 ≤ b ∧ b ≤ 7) ∧ (0 ≤ c ∧ c ≤ 4194303) ∧ (op = 4 ∨ b = 0) ∧ (op ≠ 1 ∨ c ≤ 1000000) ∧ (op ≠ 4 ∨ (1 ≤ c ∧ c ≤ 9)) ∧ ((op ≠ 5 ∧ op ≠ 6) ∨ c = 0) ∧ (op ≠ 8 ∨ a = 0) ∧ (op ≠ 10 ∨ 1 ≤ a)) : some (AV.bool true, ([] : List (List AV))) = some (.bool (insOk op a b c), []) := by
  unfold insOk; rw [decide_eq_true h]
theorem insOk_f {op a b c : Int} (h : ¬ ((1 ≤ op ∧ op ≤ 10) ∧ (0 ≤ a ∧ a ≤ 7) ∧ (0 ≤ b ∧ b ≤ 7) ∧ (0 ≤ c ∧ c ≤ 4194303) ∧ (op = 4 ∨ b = 0) ∧ (op ≠ 1 ∨ c ≤ 1000000) ∧ (op ≠ 4 ∨ (1 ≤ c ∧ c ≤ 9)) ∧ ((op ≠ 5 ∧ op ≠ 6) ∨ c = 0) ∧ (op ≠ 8 ∨ a = 0) ∧ (op ≠ 10 ∨ 1 ≤ a))) : some (AV.bool false, ([] : List (List AV))) = some (.bool (insOk op a b c), []) := by
  unfold insOk; rw [decide_eq_false h]
theorem insOk_d {op a b c : Int} {p : Prop} [Decidable p] (h : p ↔ ((1 ≤ op ∧ op ≤ 10) ∧ (0 ≤ a ∧ a ≤ 7) ∧ (0 ≤ b ∧ b ≤ 7) ∧ (0 ≤ c ∧ c ≤ 4194303) ∧ (op = 4 ∨ b = 0) ∧ (op ≠ 1 ∨ c ≤ 1000000) ∧ (op ≠ 4 ∨ (1 ≤ c ∧ c ≤ 9)) ∧ ((op ≠ 5 ∧ op ≠ 6) ∨ c = 0) ∧ (op ≠ 8 ∨ a = 0) ∧ (op ≠ 10 ∨ 1 ≤ a))) : some (AV.bool (decide p), ([] : List (List AV))) = some (.bool (insOk op a b c), []) := by
  unfold insOk; rw [decide_eq_decide.2 h]
theorem sem_spec_InsOk (op a b c : Int) : S_spec_InsOk.sem [.agg [.int .i64 op, .int .i64 a, .int .i64 b, .int .i64 c]] = some (.bool (insOk op a b c), []) := by
  rw [sg_spec_InsOk, sem_go]
  by_cases h1 : 1 ≤ op ∧ op ≤ 10
  · by_cases h2 : 0 ≤ a ∧ a ≤ 7
    · by_cases h3 : 0 ≤ b ∧ b ≤ 7
      · by_cases h4 : 0 ≤ c ∧ c ≤ 4194303
        · by_cases h5 : b = 0
          · subst h5
            have hb : (0 : Int) ≤ 0 ∧ (0 : Int) ≤ 7 := by omega
            have : op = 1 ∨ op = 2 ∨ op = 3 ∨ op = 4 ∨ op = 5 ∨ op = 6 ∨ op = 7 ∨ op = 8 ∨ op = 9 ∨ op = 10 := by omega
            rcases this with rfl | rfl | rfl | rfl | rfl | rfl | rfl | rfl | rfl | rfl
            all_goals simp (maxSteps := 10000000) (disch := first | assumption | omega) only [F_spec_InsOk, params, EG, EL, simprocAttr, FB, ED, cx_spec_InsOk, cl_spec_l01In, sem_spec_l01In,  h1, h2, hb, h4, decide_true, decide_false, Bool.not_true, Bool.not_false]
            all_goals first | exact insOk_t (by omega) | exact insOk_d (by omega) | (split <;> first | exact insOk_t (by omega) | exact insOk_f (by omega)) | (by_cases h9 : 1 ≤ a ∧ a ≤ 7 <;> simp only [h9, if_true, if_false, decide_true, decide_false] <;> first | exact insOk_t (by omega) | exact insOk_f (by omega))
          · by_cases h6 : op = 4
            · subst h6
              simp (maxSteps := 10000000) (disch := first | assumption | omega) only [F_spec_InsOk, params, EG, EL, simprocAttr, FB, ED, cx_spec_InsOk, cl_spec_l01In, sem_spec_l01In,  h1, h2, h3, h4, h5, decide_true, decide_false, Bool.not_true, Bool.not_false]
              all_goals first | exact insOk_t (by omega) | exact insOk_d (by omega) | (split <;> first | exact insOk_t (by omega) | exact insOk_f (by omega)) | (by_cases h9 : 1 ≤ a ∧ a ≤ 7 <;> simp only [h9, if_true, if_false, decide_true, decide_false] <;> first | exact insOk_t (by omega) | exact insOk_f (by omega))
            · by_cases h7 : op = 10
              · subst h7
                rw [insOk_no (by omega)]
                simp (maxSteps := 10000000) (disch := first | assumption | omega) only [F_spec_InsOk, params, EG, EL, simprocAttr, FB, ED, cx_spec_InsOk, cl_spec_l01In, sem_spec_l01In,  h1, h2, h3, h4, h5, decide_true, decide_false, Bool.not_true, Bool.not_false]
                try simp
              · rw [insOk_no (by omega)]
                simp (maxSteps := 10000000) (disch := first | assumption | omega) only [F_spec_InsOk, params, EG, EL, simprocAttr, FB, ED, cx_spec_InsOk, cl_spec_l01In, sem_spec_l01In,  h1, h2, h3, h4, h5, h6, h7, decide_true, decide_false, Bool.not_true, Bool.not_false]
        · rw [insOk_no (by omega)]
          simp (maxSteps := 10000000) (disch := first | assumption | omega) only [F_spec_InsOk, params, EG, EL, simprocAttr, FB, ED, cx_spec_InsOk, cl_spec_l01In, sem_spec_l01In,  h1, h2, h3, h4, decide_true, decide_false, Bool.not_true, Bool.not_false]
      · rw [insOk_no (by omega)]
        simp (maxSteps := 10000000) (disch := first | assumption | omega) only [F_spec_InsOk, params, EG, EL, simprocAttr, FB, ED, cx_spec_InsOk, cl_spec_l01In, sem_spec_l01In,  h1, h2, h3, decide_true, decide_false, Bool.not_true, Bool.not_false]
    · rw [insOk_no (by omega)]
      simp (maxSteps := 10000000) (disch := first | assumption | omega) only [F_spec_InsOk, params, EG, EL, simprocAttr, FB, ED, cx_spec_InsOk, cl_spec_l01In, sem_spec_l01In,  h1, h2, decide_true, decide_false, Bool.not_true, Bool.not_false]
  · rw [insOk_no (by omega)]
    simp (maxSteps := 10000000) (disch := first | assumption | omega) only [F_spec_InsOk, params, EG, EL, simprocAttr, FB, ED, cx_spec_InsOk, cl_spec_l01In, sem_spec_l01In,  h1, decide_true, decide_false, Bool.not_true, Bool.not_false]
theorem sem_impl_InsOk (op a b c : Int) : S_impl_InsOk.sem [.agg [.int .i64 op, .int .i64 a, .int .i64 b, .int .i64 c]] = some (.bool (insOk op a b c), []) := by
  rw [sg_impl_InsOk, sem_go]
  by_cases h1 : 1 ≤ op ∧ op ≤ 10
  · by_cases h2 : 0 ≤ a ∧ a ≤ 7
    · by_cases h3 : 0 ≤ b ∧ b ≤ 7
      · by_cases h4 : 0 ≤ c ∧ c ≤ 4194303
        · by_cases h5 : b = 0
          · subst h5
            have hb : (0 : Int) ≤ 0 ∧ (0 : Int) ≤ 7 := by omega
            have : op = 1 ∨ op = 2 ∨ op = 3 ∨ op = 4 ∨ op = 5 ∨ op = 6 ∨ op = 7 ∨ op = 8 ∨ op = 9 ∨ op = 10 := by omega
            rcases this with rfl | rfl | rfl | rfl | rfl | rfl | rfl | rfl | rfl | rfl
            all_goals simp (maxSteps := 10000000) (disch := first | assumption | omega) only [F_impl_InsOk, params, EG, EL, simprocAttr, FB, ED, cx_impl_InsOk, cl_impl_within, sem_impl_within,  h1, h2, hb, h4, decide_true, decide_false, Bool.not_true, Bool.not_false]
            all_goals first | exact insOk_t (by omega) | exact insOk_d (by omega) | (split <;> first | exact insOk_t (by omega) | exact insOk_f (by omega)) | (by_cases h9 : 1 ≤ a ∧ a ≤ 7 <;> simp only [h9, if_true, if_false, decide_true, decide_false] <;> first | exact insOk_t (by omega) | exact insOk_f (by omega))
          · by_cases h6 : op = 4
            · subst h6
              simp (maxSteps := 10000000) (disch := first | assumption | omega) only [F_impl_InsOk, params, EG, EL, simprocAttr, FB, ED, cx_impl_InsOk, cl_impl_within, sem_impl_within,  h1, h2, h3, h4, h5, decide_true, decide_false, Bool.not_true, Bool.not_false]
              all_goals first | exact insOk_t (by omega) | exact insOk_d (by omega) | (split <;> first | exact insOk_t (by omega) | exact insOk_f (by omega)) | (by_cases h9 : 1 ≤ a ∧ a ≤ 7 <;> simp only [h9, if_true, if_false, decide_true, decide_false] <;> first | exact insOk_t (by omega) | exact insOk_f (by omega))
            · by_cases h7 : op = 10
              · subst h7
                rw [insOk_no (by omega)]
                simp (maxSteps := 10000000) (disch := first | assumption | omega) only [F_impl_InsOk, params, EG, EL, simprocAttr, FB, ED, cx_impl_InsOk, cl_impl_within, sem_impl_within,  h1, h2, h3, h4, h5, decide_true, decide_false, Bool.not_true, Bool.not_false]
                try simp
              · rw [insOk_no (by omega)]
                simp (maxSteps := 10000000) (disch := first | assumption | omega) only [F_impl_InsOk, params, EG, EL, simprocAttr, FB, ED, cx_impl_InsOk, cl_impl_within, sem_impl_within,  h1, h2, h3, h4, h5, h6, h7, decide_true, decide_false, Bool.not_true, Bool.not_false]
        · rw [insOk_no (by omega)]
          simp (maxSteps := 10000000) (disch := first | assumption | omega) only [F_impl_InsOk, params, EG, EL, simprocAttr, FB, ED, cx_impl_InsOk, cl_impl_within, sem_impl_within,  h1, h2, h3, h4, decide_true, decide_false, Bool.not_true, Bool.not_false]
      · rw [insOk_no (by omega)]
        simp (maxSteps := 10000000) (disch := first | assumption | omega) only [F_impl_InsOk, params, EG, EL, simprocAttr, FB, ED, cx_impl_InsOk, cl_impl_within, sem_impl_within,  h1, h2, h3, decide_true, decide_false, Bool.not_true, Bool.not_false]
    · rw [insOk_no (by omega)]
      simp (maxSteps := 10000000) (disch := first | assumption | omega) only [F_impl_InsOk, params, EG, EL, simprocAttr, FB, ED, cx_impl_InsOk, cl_impl_within, sem_impl_within,  h1, h2, decide_true, decide_false, Bool.not_true, Bool.not_false]
  · rw [insOk_no (by omega)]
    simp (maxSteps := 10000000) (disch := first | assumption | omega) only [F_impl_InsOk, params, EG, EL, simprocAttr, FB, ED, cx_impl_InsOk, cl_impl_within, sem_impl_within,  h1, decide_true, decide_false, Bool.not_true, Bool.not_false]
def insZ (a b c : Int) : Bool := decide (a = 0 ∧ b = 0 ∧ c = 0)
theorem eqf_ins0 {a b c : Int} : eqf [.int .i64 0, .int .i64 a, .int .i64 b, .int .i64 c] [.int .i64 0, .int .i64 0, .int .i64 0, .int .i64 0] [(0, 1), (1, 1), (2, 1), (3, 1)] = some (insZ a b c) := by
  by_cases h2 : a = 0 <;> by_cases h3 : b = 0 <;> by_cases h4 : c = 0 <;> simp [eqf, eqc, insZ, h2, h3, h4]
def lineOk (all : List DLine) (i : Nat) (x : DLine) : Bool :=
  if x.Ins.Op = 0 then insZ x.Ins.A x.Ins.B x.Ins.C && (decide (x.Target = ⟨#[]⟩) && (decide (1 ≤ (x.Label.size : Int) ∧ (x.Label.size : Int) ≤ 12) && decide (fIx (isLab x.Label) all 0 = (i : Int))))
  else decide (x.Label = ⟨#[]⟩) && (insOk x.Ins.Op x.Ins.A x.Ins.B (if x.Target = ⟨#[]⟩ then x.Ins.C else if x.Ins.Op = 4 then x.Ins.C else 0) && (decide (x.Target = ⟨#[]⟩) || !decide (fIx (isLab x.Target) all 0 < 0)))
def linesB (all : List DLine) : List DLine → Nat → Bool
  | [], _ => true
  | x :: r, i => lineOk all i x && linesB all r (i + 1)
theorem sem_spec_LinesOk (xs : List DLine) (hl : xs.length ≤ 1048576) : S_spec_LinesOk.sem [.tree 6 (xs.map cLine)] = some (.bool (linesB xs xs 0 && decide (xs.length ≤ 900)), []) := by
  have loop : loopV X_spec_LinesOk 0 [0, 3] [(1, [0]), (0, [2])] B0_spec_LinesOk ⟨[(0, .tree 6 (xs.map cLine)), (3, .int .i64 0)], []⟩ = okR (linesB xs xs 0) 0 ⟨[(0, .tree 6 (xs.map cLine))], []⟩ 2 := by
    refine loop_list xs (fun i (a : Nat) => a = i) (fun i _ => ⟨[(0, .tree 6 (xs.map cLine)), (3, .int .i64 ((i : Nat) : Int))], []⟩) (fun rest a => okR (linesB xs rest a) 0 ⟨[(0, .tree 6 (xs.map cLine))], []⟩ 2) ?_ ?_ 0 rfl
    · rintro a rfl
      rw [loopV_by B0_spec_LinesOk.eq_1]
      simp only [EG, EL, simprocAttr, FB, int_lt_irrefl, linesB, okR_true]
    · rintro i hi0 y rest a rfl rfl rfl ih
      have i1 := ih _ rfl
      have hi : (a : Int) < (xs.length : Int) := by omega
      rw [loopV_by B0_spec_LinesOk.eq_1]
      by_cases h1 : xs[a].Ins.Op = 0
      · cases h2 : insZ xs[a].Ins.A xs[a].Ins.B xs[a].Ins.C
        · simp (maxSteps := 10000000) (disch := first | assumption | omega) only [EG, EL, simprocAttr, FB, ED, FT, hi, wrap_succ, getRow _ _ hi0, h1, cx_spec_LinesOk, cl_spec_l01In, sem_spec_l01In, cl_spec_l16First, sem_spec_l16First, cl_spec_InsOk, sem_spec_InsOk, eqf_ins0, Option.map_some, linesB, lineOk, okR_true, okR_false, i1, decide_true, decide_false, Bool.not_true, Bool.not_false, Bool.true_and, Bool.false_and, Bool.true_or, Bool.false_or, Bool.or_true, Bool.or_false, h2]
        · by_cases h3 : xs[a].Target = ⟨#[]⟩
          · by_cases h4 : 1 ≤ (xs[a].Label.size : Int) ∧ (xs[a].Label.size : Int) ≤ 12
            · by_cases h5 : fIx (isLab xs[a].Label) xs 0 = (a : Int)
              · simp (maxSteps := 10000000) (disch := first | assumption | omega) only [EG, EL, simprocAttr, FB, ED, FT, hi, wrap_succ, getRow _ _ hi0, h1, cx_spec_LinesOk, cl_spec_l01In, sem_spec_l01In, cl_spec_l16First, sem_spec_l16First, cl_spec_InsOk, sem_spec_InsOk, eqf_ins0, Option.map_some, linesB, lineOk, okR_true, okR_false, i1, decide_true, decide_false, Bool.not_true, Bool.not_false, Bool.true_and, Bool.false_and, Bool.true_or, Bool.false_or, Bool.or_true, Bool.or_false, h2, h3, h4, h5]
              · simp (maxSteps := 10000000) (disch := first | assumption | omega) only [EG, EL, simprocAttr, FB, ED, FT, hi, wrap_succ, getRow _ _ hi0, h1, cx_spec_LinesOk, cl_spec_l01In, sem_spec_l01In, cl_spec_l16First, sem_spec_l16First, cl_spec_InsOk, sem_spec_InsOk, eqf_ins0, Option.map_some, linesB, lineOk, okR_true, okR_false, i1, decide_true, decide_false, Bool.not_true, Bool.not_false, Bool.true_and, Bool.false_and, Bool.true_or, Bool.false_or, Bool.or_true, Bool.or_false, h2, h3, h4, h5]
            · simp (maxSteps := 10000000) (disch := first | assumption | omega) only [EG, EL, simprocAttr, FB, ED, FT, hi, wrap_succ, getRow _ _ hi0, h1, cx_spec_LinesOk, cl_spec_l01In, sem_spec_l01In, cl_spec_l16First, sem_spec_l16First, cl_spec_InsOk, sem_spec_InsOk, eqf_ins0, Option.map_some, linesB, lineOk, okR_true, okR_false, i1, decide_true, decide_false, Bool.not_true, Bool.not_false, Bool.true_and, Bool.false_and, Bool.true_or, Bool.false_or, Bool.or_true, Bool.or_false, h2, h3, h4]
          · simp (maxSteps := 10000000) (disch := first | assumption | omega) only [EG, EL, simprocAttr, FB, ED, FT, hi, wrap_succ, getRow _ _ hi0, h1, cx_spec_LinesOk, cl_spec_l01In, sem_spec_l01In, cl_spec_l16First, sem_spec_l16First, cl_spec_InsOk, sem_spec_InsOk, eqf_ins0, Option.map_some, linesB, lineOk, okR_true, okR_false, i1, decide_true, decide_false, Bool.not_true, Bool.not_false, Bool.true_and, Bool.false_and, Bool.true_or, Bool.false_or, Bool.or_true, Bool.or_false, h2, h3]
      · by_cases h2 : xs[a].Label = ⟨#[]⟩
        · by_cases h3 : xs[a].Target = ⟨#[]⟩
          · cases h4 : insOk xs[a].Ins.Op xs[a].Ins.A xs[a].Ins.B xs[a].Ins.C
            all_goals simp (maxSteps := 10000000) (disch := first | assumption | omega) only [EG, EL, simprocAttr, FB, ED, FT, hi, wrap_succ, getRow _ _ hi0, h1, cx_spec_LinesOk, cl_spec_l01In, sem_spec_l01In, cl_spec_l16First, sem_spec_l16First, cl_spec_InsOk, sem_spec_InsOk, eqf_ins0, Option.map_some, linesB, lineOk, okR_true, okR_false, i1, decide_true, decide_false, Bool.not_true, Bool.not_false, Bool.true_and, Bool.false_and, Bool.true_or, Bool.false_or, Bool.or_true, Bool.or_false, h2, h3, h4]
          · by_cases h6 : fIx (isLab xs[a].Target) xs 0 < 0
            all_goals by_cases h5 : xs[a].Ins.Op = 4
            · cases h4 : insOk 4 xs[a].Ins.A xs[a].Ins.B xs[a].Ins.C
              all_goals simp (maxSteps := 10000000) (disch := first | assumption | omega) only [EG, EL, simprocAttr, FB, ED, FT, hi, wrap_succ, getRow _ _ hi0, h1, cx_spec_LinesOk, cl_spec_l01In, sem_spec_l01In, cl_spec_l16First, sem_spec_l16First, cl_spec_InsOk, sem_spec_InsOk, eqf_ins0, Option.map_some, linesB, lineOk, okR_true, okR_false, i1, decide_true, decide_false, Bool.not_true, Bool.not_false, Bool.true_and, Bool.false_and, Bool.true_or, Bool.false_or, Bool.or_true, Bool.or_false, h2, h3, h4, h5, h6]
            · cases h4 : insOk xs[a].Ins.Op xs[a].Ins.A xs[a].Ins.B 0
              all_goals simp (maxSteps := 10000000) (disch := first | assumption | omega) only [EG, EL, simprocAttr, FB, ED, FT, hi, wrap_succ, getRow _ _ hi0, h1, cx_spec_LinesOk, cl_spec_l01In, sem_spec_l01In, cl_spec_l16First, sem_spec_l16First, cl_spec_InsOk, sem_spec_InsOk, eqf_ins0, Option.map_some, linesB, lineOk, okR_true, okR_false, i1, decide_true, decide_false, Bool.not_true, Bool.not_false, Bool.true_and, Bool.false_and, Bool.true_or, Bool.false_or, Bool.or_true, Bool.or_false, h2, h3, h4, h5, h6]
            · cases h4 : insOk 4 xs[a].Ins.A xs[a].Ins.B xs[a].Ins.C
              all_goals simp (maxSteps := 10000000) (disch := first | assumption | omega) only [EG, EL, simprocAttr, FB, ED, FT, hi, wrap_succ, getRow _ _ hi0, h1, cx_spec_LinesOk, cl_spec_l01In, sem_spec_l01In, cl_spec_l16First, sem_spec_l16First, cl_spec_InsOk, sem_spec_InsOk, eqf_ins0, Option.map_some, linesB, lineOk, okR_true, okR_false, i1, decide_true, decide_false, Bool.not_true, Bool.not_false, Bool.true_and, Bool.false_and, Bool.true_or, Bool.false_or, Bool.or_true, Bool.or_false, h2, h3, h4, h5, h6]
            · cases h4 : insOk xs[a].Ins.Op xs[a].Ins.A xs[a].Ins.B 0
              all_goals simp (maxSteps := 10000000) (disch := first | assumption | omega) only [EG, EL, simprocAttr, FB, ED, FT, hi, wrap_succ, getRow _ _ hi0, h1, cx_spec_LinesOk, cl_spec_l01In, sem_spec_l01In, cl_spec_l16First, sem_spec_l16First, cl_spec_InsOk, sem_spec_InsOk, eqf_ins0, Option.map_some, linesB, lineOk, okR_true, okR_false, i1, decide_true, decide_false, Bool.not_true, Bool.not_false, Bool.true_and, Bool.false_and, Bool.true_or, Bool.false_or, Bool.or_true, Bool.or_false, h2, h3, h4, h5, h6]
        · by_cases h3 : xs[a].Target = ⟨#[]⟩
          · simp (maxSteps := 10000000) (disch := first | assumption | omega) only [EG, EL, simprocAttr, FB, ED, FT, hi, wrap_succ, getRow _ _ hi0, h1, cx_spec_LinesOk, cl_spec_l01In, sem_spec_l01In, cl_spec_l16First, sem_spec_l16First, cl_spec_InsOk, sem_spec_InsOk, eqf_ins0, Option.map_some, linesB, lineOk, okR_true, okR_false, i1, decide_true, decide_false, Bool.not_true, Bool.not_false, Bool.true_and, Bool.false_and, Bool.true_or, Bool.false_or, Bool.or_true, Bool.or_false, h2, h3]
          · by_cases h5 : xs[a].Ins.Op = 4
            all_goals simp (maxSteps := 10000000) (disch := first | assumption | omega) only [EG, EL, simprocAttr, FB, ED, FT, hi, wrap_succ, getRow _ _ hi0, h1, cx_spec_LinesOk, cl_spec_l01In, sem_spec_l01In, cl_spec_l16First, sem_spec_l16First, cl_spec_InsOk, sem_spec_InsOk, eqf_ins0, Option.map_some, linesB, lineOk, okR_true, okR_false, i1, decide_true, decide_false, Bool.not_true, Bool.not_false, Bool.true_and, Bool.false_and, Bool.true_or, Bool.false_or, Bool.or_true, Bool.or_false, h2, h3, h5]
  rw [sg_spec_LinesOk, sem_go]
  by_cases h9 : xs.length ≤ 900
  · have h9' : (xs.length : Int) ≤ 900 := by omega
    cases hb : linesB xs xs 0
    all_goals simp only [hb, okR_true, okR_false, EG, EL, simprocAttr, FB] at loop
    all_goals simp (maxSteps := 10000000) (disch := first | assumption | omega) only [F_spec_LinesOk, params, EG, EL, simprocAttr, FB, ED, cx_spec_LinesOk, loop, h9, h9', decide_true, decide_false, Bool.false_and, Bool.true_and]
  · have h9' : ¬ (xs.length : Int) ≤ 900 := by omega
    cases hb : linesB xs xs 0
    all_goals simp only [hb, okR_true, okR_false, EG, EL, simprocAttr, FB] at loop
    all_goals simp (maxSteps := 10000000) (disch := first | assumption | omega) only [F_spec_LinesOk, params, EG, EL, simprocAttr, FB, ED, cx_spec_LinesOk, loop, h9, h9', decide_true, decide_false, Bool.false_and, Bool.true_and]
theorem sem_impl_LinesOk (xs : List DLine) (hl : xs.length ≤ 1048576) : S_impl_LinesOk.sem [.tree 6 (xs.map cLine)] = some (.bool (linesB xs xs 0 && decide (xs.length ≤ 900)), []) := by
  have loop : loopV X_impl_LinesOk 0 [0, 6, 7, 8] [(1, [0]), (0, [2])] B0_impl_LinesOk ⟨[(0, .tree 6 (xs.map cLine)), (6, .tree 6 (xs.map cLine)), (7, .int .i64 xs.length), (8, .int .i64 0)], []⟩ = okR (linesB xs xs 0) 0 ⟨[(0, .tree 6 (xs.map cLine))], []⟩ 2 := by
    refine loop_list xs (fun i (a : Nat) => a = i) (fun i _ => ⟨[(0, .tree 6 (xs.map cLine)), (6, .tree 6 (xs.map cLine)), (7, .int .i64 xs.length), (8, .int .i64 ((i : Nat) : Int))], []⟩) (fun rest a => okR (linesB xs rest a) 0 ⟨[(0, .tree 6 (xs.map cLine))], []⟩ 2) ?_ ?_ 0 rfl
    · rintro a rfl
      rw [loopV_by B0_impl_LinesOk.eq_1]
      simp only [EG, EL, simprocAttr, FB, int_lt_irrefl, linesB, okR_true]
    · rintro i hi0 y rest a rfl rfl rfl ih
      have i1 := ih _ rfl
      have hi : (a : Int) < (xs.length : Int) := by omega
      rw [loopV_by B0_impl_LinesOk.eq_1]
      by_cases h1 : xs[a].Ins.Op = 0
      · cases h2 : insZ xs[a].Ins.A xs[a].Ins.B xs[a].Ins.C
        · simp (maxSteps := 10000000) (disch := first | assumption | omega) only [EG, EL, simprocAttr, FB, ED, FT, hi, wrap_succ, getRow _ _ hi0, h1, cx_impl_LinesOk, cl_impl_within, sem_impl_within, cl_impl_labelAt, sem_impl_labelAt, cl_impl_InsOk, sem_impl_InsOk, eqf_ins0, Option.map_some, linesB, lineOk, okR_true, okR_false, i1, decide_true, decide_false, Bool.not_true, Bool.not_false, Bool.true_and, Bool.false_and, Bool.true_or, Bool.false_or, Bool.or_true, Bool.or_false, h2]
        · by_cases h3 : xs[a].Target = ⟨#[]⟩
          · by_cases h4 : 1 ≤ (xs[a].Label.size : Int) ∧ (xs[a].Label.size : Int) ≤ 12
            · by_cases h5 : fIx (isLab xs[a].Label) xs 0 = (a : Int)
              · simp (maxSteps := 10000000) (disch := first | assumption | omega) only [EG, EL, simprocAttr, FB, ED, FT, hi, wrap_succ, getRow _ _ hi0, h1, cx_impl_LinesOk, cl_impl_within, sem_impl_within, cl_impl_labelAt, sem_impl_labelAt, cl_impl_InsOk, sem_impl_InsOk, eqf_ins0, Option.map_some, linesB, lineOk, okR_true, okR_false, i1, decide_true, decide_false, Bool.not_true, Bool.not_false, Bool.true_and, Bool.false_and, Bool.true_or, Bool.false_or, Bool.or_true, Bool.or_false, h2, h3, h4, h5]
              · simp (maxSteps := 10000000) (disch := first | assumption | omega) only [EG, EL, simprocAttr, FB, ED, FT, hi, wrap_succ, getRow _ _ hi0, h1, cx_impl_LinesOk, cl_impl_within, sem_impl_within, cl_impl_labelAt, sem_impl_labelAt, cl_impl_InsOk, sem_impl_InsOk, eqf_ins0, Option.map_some, linesB, lineOk, okR_true, okR_false, i1, decide_true, decide_false, Bool.not_true, Bool.not_false, Bool.true_and, Bool.false_and, Bool.true_or, Bool.false_or, Bool.or_true, Bool.or_false, h2, h3, h4, h5]
            · simp (maxSteps := 10000000) (disch := first | assumption | omega) only [EG, EL, simprocAttr, FB, ED, FT, hi, wrap_succ, getRow _ _ hi0, h1, cx_impl_LinesOk, cl_impl_within, sem_impl_within, cl_impl_labelAt, sem_impl_labelAt, cl_impl_InsOk, sem_impl_InsOk, eqf_ins0, Option.map_some, linesB, lineOk, okR_true, okR_false, i1, decide_true, decide_false, Bool.not_true, Bool.not_false, Bool.true_and, Bool.false_and, Bool.true_or, Bool.false_or, Bool.or_true, Bool.or_false, h2, h3, h4]
          · simp (maxSteps := 10000000) (disch := first | assumption | omega) only [EG, EL, simprocAttr, FB, ED, FT, hi, wrap_succ, getRow _ _ hi0, h1, cx_impl_LinesOk, cl_impl_within, sem_impl_within, cl_impl_labelAt, sem_impl_labelAt, cl_impl_InsOk, sem_impl_InsOk, eqf_ins0, Option.map_some, linesB, lineOk, okR_true, okR_false, i1, decide_true, decide_false, Bool.not_true, Bool.not_false, Bool.true_and, Bool.false_and, Bool.true_or, Bool.false_or, Bool.or_true, Bool.or_false, h2, h3]
      · by_cases h2 : xs[a].Label = ⟨#[]⟩
        · by_cases h3 : xs[a].Target = ⟨#[]⟩
          · cases h4 : insOk xs[a].Ins.Op xs[a].Ins.A xs[a].Ins.B xs[a].Ins.C
            all_goals simp (maxSteps := 10000000) (disch := first | assumption | omega) only [EG, EL, simprocAttr, FB, ED, FT, hi, wrap_succ, getRow _ _ hi0, h1, cx_impl_LinesOk, cl_impl_within, sem_impl_within, cl_impl_labelAt, sem_impl_labelAt, cl_impl_InsOk, sem_impl_InsOk, eqf_ins0, Option.map_some, linesB, lineOk, okR_true, okR_false, i1, decide_true, decide_false, Bool.not_true, Bool.not_false, Bool.true_and, Bool.false_and, Bool.true_or, Bool.false_or, Bool.or_true, Bool.or_false, h2, h3, h4]
          · by_cases h6 : fIx (isLab xs[a].Target) xs 0 < 0
            all_goals by_cases h5 : xs[a].Ins.Op = 4
            · cases h4 : insOk 4 xs[a].Ins.A xs[a].Ins.B xs[a].Ins.C
              all_goals simp (maxSteps := 10000000) (disch := first | assumption | omega) only [EG, EL, simprocAttr, FB, ED, FT, hi, wrap_succ, getRow _ _ hi0, h1, cx_impl_LinesOk, cl_impl_within, sem_impl_within, cl_impl_labelAt, sem_impl_labelAt, cl_impl_InsOk, sem_impl_InsOk, eqf_ins0, Option.map_some, linesB, lineOk, okR_true, okR_false, i1, decide_true, decide_false, Bool.not_true, Bool.not_false, Bool.true_and, Bool.false_and, Bool.true_or, Bool.false_or, Bool.or_true, Bool.or_false, h2, h3, h4, h5, h6]
            · cases h4 : insOk xs[a].Ins.Op xs[a].Ins.A xs[a].Ins.B 0
              all_goals simp (maxSteps := 10000000) (disch := first | assumption | omega) only [EG, EL, simprocAttr, FB, ED, FT, hi, wrap_succ, getRow _ _ hi0, h1, cx_impl_LinesOk, cl_impl_within, sem_impl_within, cl_impl_labelAt, sem_impl_labelAt, cl_impl_InsOk, sem_impl_InsOk, eqf_ins0, Option.map_some, linesB, lineOk, okR_true, okR_false, i1, decide_true, decide_false, Bool.not_true, Bool.not_false, Bool.true_and, Bool.false_and, Bool.true_or, Bool.false_or, Bool.or_true, Bool.or_false, h2, h3, h4, h5, h6]
            · cases h4 : insOk 4 xs[a].Ins.A xs[a].Ins.B xs[a].Ins.C
              all_goals simp (maxSteps := 10000000) (disch := first | assumption | omega) only [EG, EL, simprocAttr, FB, ED, FT, hi, wrap_succ, getRow _ _ hi0, h1, cx_impl_LinesOk, cl_impl_within, sem_impl_within, cl_impl_labelAt, sem_impl_labelAt, cl_impl_InsOk, sem_impl_InsOk, eqf_ins0, Option.map_some, linesB, lineOk, okR_true, okR_false, i1, decide_true, decide_false, Bool.not_true, Bool.not_false, Bool.true_and, Bool.false_and, Bool.true_or, Bool.false_or, Bool.or_true, Bool.or_false, h2, h3, h4, h5, h6]
            · cases h4 : insOk xs[a].Ins.Op xs[a].Ins.A xs[a].Ins.B 0
              all_goals simp (maxSteps := 10000000) (disch := first | assumption | omega) only [EG, EL, simprocAttr, FB, ED, FT, hi, wrap_succ, getRow _ _ hi0, h1, cx_impl_LinesOk, cl_impl_within, sem_impl_within, cl_impl_labelAt, sem_impl_labelAt, cl_impl_InsOk, sem_impl_InsOk, eqf_ins0, Option.map_some, linesB, lineOk, okR_true, okR_false, i1, decide_true, decide_false, Bool.not_true, Bool.not_false, Bool.true_and, Bool.false_and, Bool.true_or, Bool.false_or, Bool.or_true, Bool.or_false, h2, h3, h4, h5, h6]
        · by_cases h3 : xs[a].Target = ⟨#[]⟩
          · simp (maxSteps := 10000000) (disch := first | assumption | omega) only [EG, EL, simprocAttr, FB, ED, FT, hi, wrap_succ, getRow _ _ hi0, h1, cx_impl_LinesOk, cl_impl_within, sem_impl_within, cl_impl_labelAt, sem_impl_labelAt, cl_impl_InsOk, sem_impl_InsOk, eqf_ins0, Option.map_some, linesB, lineOk, okR_true, okR_false, i1, decide_true, decide_false, Bool.not_true, Bool.not_false, Bool.true_and, Bool.false_and, Bool.true_or, Bool.false_or, Bool.or_true, Bool.or_false, h2, h3]
          · by_cases h5 : xs[a].Ins.Op = 4
            all_goals simp (maxSteps := 10000000) (disch := first | assumption | omega) only [EG, EL, simprocAttr, FB, ED, FT, hi, wrap_succ, getRow _ _ hi0, h1, cx_impl_LinesOk, cl_impl_within, sem_impl_within, cl_impl_labelAt, sem_impl_labelAt, cl_impl_InsOk, sem_impl_InsOk, eqf_ins0, Option.map_some, linesB, lineOk, okR_true, okR_false, i1, decide_true, decide_false, Bool.not_true, Bool.not_false, Bool.true_and, Bool.false_and, Bool.true_or, Bool.false_or, Bool.or_true, Bool.or_false, h2, h3, h5]
  rw [sg_impl_LinesOk, sem_go]
  by_cases h9 : xs.length ≤ 900
  · have h9' : (xs.length : Int) ≤ 900 := by omega
    cases hb : linesB xs xs 0
    all_goals simp only [hb, okR_true, okR_false, EG, EL, simprocAttr, FB] at loop
    all_goals simp (maxSteps := 10000000) (disch := first | assumption | omega) only [F_impl_LinesOk, params, EG, EL, simprocAttr, FB, ED, cx_impl_LinesOk, loop, h9, h9', decide_true, decide_false, Bool.false_and, Bool.true_and]
  · have h9' : ¬ (xs.length : Int) ≤ 900 := by omega
    cases hb : linesB xs xs 0
    all_goals simp only [hb, okR_true, okR_false, EG, EL, simprocAttr, FB] at loop
    all_goals simp (maxSteps := 10000000) (disch := first | assumption | omega) only [F_impl_LinesOk, params, EG, EL, simprocAttr, FB, ED, cx_impl_LinesOk, loop, h9, h9', decide_true, decide_false, Bool.false_and, Bool.true_and]
def valOk (n : Int) : Bool := decide (-1000000 ≤ n ∧ n ≤ 1000000)
def bitF (b : Bool) : Int := if b = true then 1 else 0
def dOp (w : Int) : Int := w.fdiv (2 ^ 28)
def s25 (w : Int) : Int := w.fdiv (2 ^ 25)
def s22 (w : Int) : Int := w.fdiv (2 ^ 22)
def dA (w : Int) : Int := IntKind.wrap .i64 (BitVec.ofInt 64 (s25 w) &&& BitVec.ofInt 64 7).toNat
def dB (w : Int) : Int := IntKind.wrap .i64 (BitVec.ofInt 64 (s22 w) &&& BitVec.ofInt 64 7).toNat
def dC (w : Int) : Int := IntKind.wrap .i64 (BitVec.ofInt 64 w &&& BitVec.ofInt 64 4194303).toNat
theorem b28 {w : Int} : bin .shr (.int .i64 w) (.int .u64 28) = some (.int .i64 (dOp w)) := rfl
theorem b25 {w : Int} : bin .shr (.int .i64 w) (.int .u64 25) = some (.int .i64 (s25 w)) := rfl
theorem b22 {w : Int} : bin .shr (.int .i64 w) (.int .u64 22) = some (.int .i64 (s22 w)) := rfl
theorem bA {w : Int} : bin .and (.int .i64 (s25 w)) (.int .i64 7) = some (.int .i64 (dA w)) := rfl
theorem bB {w : Int} : bin .and (.int .i64 (s22 w)) (.int .i64 7) = some (.int .i64 (dB w)) := rfl
theorem bC {w : Int} : bin .and (.int .i64 w) (.int .i64 4194303) = some (.int .i64 (dC w)) := rfl
theorem valOk_zero : valOk 0 = true := by decide
theorem big_op {w : Int} (h : ¬ w ≤ 8589934592) : insOk (dOp w) (dA w) (dB w) (dC w) = false := by
  apply insOk_no
  have : 11 ≤ dOp w := by unfold dOp; rw [Int.fdiv_eq_ediv_of_nonneg _ (by decide)]; omega
  omega
def decOk (w : Int) : Bool := decide (0 ≤ w) && insOk (dOp w) (dA w) (dB w) (dC w)
def decR (w : Int) : AV := if decOk w = true then .tup [.agg [.int .i64 (dOp w), .int .i64 (dA w), .int .i64 (dB w), .int .i64 (dC w)], .bool true] else .tup [.agg [.int .i64 0, .int .i64 0, .int .i64 0, .int .i64 0], .bool false]
def calcN (op a b : Int) : Int := if op = 1 then IntKind.wrap .i64 (a + b) else if op = 2 then IntKind.wrap .i64 (a - b) else if op = 3 then IntKind.wrap .i64 (a * b) else if op = 4 then IntKind.wrap .i64 (a.tdiv b) else if op = 5 then a.tmod b else if op = 6 then bitF (decide (a < b)) else if op = 7 then bitF (decide (a = b)) else if op = 8 then bitF (!decide (a = 0) && !decide (b = 0)) else bitF (!decide (a = 0) || !decide (b = 0))
def calcF (op a b : Int) : Int × Int := if valOk a = true ∧ valOk b = true ∧ 1 ≤ op ∧ op ≤ 9 then (if b = 0 ∧ (op = 4 ∨ op = 5) then (0, 2) else if valOk (calcN op a b) = true then (calcN op a b, 0) else (0, 1)) else (0, 1)
def negF (a : Int) : Int × Int := if valOk a = true then (IntKind.wrap .i64 (0 - a), 0) else (0, 1)
def coreOkF (c : DCore) : Bool := c.Regs.all valOk && (decide (c.Regs.length = 8) && (decide (0 ≤ c.Pc) && decide (-1 ≤ c.Process ∧ c.Process ≤ 3)))
theorem sem_spec_Decode (w : Int) : S_spec_Decode.sem [.int .i64 w] = some (decR w, []) := by
  rw [sg_spec_Decode, sem_go]
  cases h2 : insOk (dOp w) (dA w) (dB w) (dC w) <;> by_cases h0 : 0 ≤ w <;> by_cases h1 : w ≤ 8589934592
  all_goals first | exact absurd (h2.symm.trans (big_op h1)) (by decide) | skip
  all_goals first | (have h0' : ¬ w < 0 := by omega) | (have h0' : w < 0 := by omega)
  all_goals simp (maxSteps := 10000000) (disch := first | assumption | omega) only [F_spec_Decode, params, EG, EL, simprocAttr, FB, ED, FT, cx_spec_Decode, cl_spec_l01In, sem_spec_l01In, cl_spec_InsOk, sem_spec_InsOk, b28, b25, b22, bA, bB, bC, decR, decOk, h0, h0', h1, h2, and_self, and_true, true_and, and_false, false_and, decide_true, decide_false, Bool.true_and, Bool.false_and, Bool.not_true, Bool.not_false]
theorem any_valOk {xs : List Int} : (xs.any fun n => !valOk n) = !(xs.all valOk) := by
  induction xs with
  | nil => rfl
  | cons y ys ih => cases h : valOk y <;> simp [ih, h]
def wordR (t : List Int) (pc : Int) : AV := if 0 ≤ pc ∧ pc ≤ (t.length : Int) - 1 then decR (t.getD pc.toNat 0) else .tup [.agg [.int .i64 0, .int .i64 0, .int .i64 0, .int .i64 0], .bool false]
def memF (op : Int) : Bool := decide (op = 2) || (decide (op = 3) || decide (op = 9))
def stepG (x : DCore) (m : List Int) (op : Int) (a b c : Nat) : DCore × List Int × Int :=
  if op = 2 ∨ op = 3 ∨ op = 9 then
    if m.length ≤ c then (x, m, 4)
    else if op = 3 then ({ x with Pc := IntKind.wrap .i64 (x.Pc + 1) }, m.set c (x.Regs.getD a 0), 0)
    else if valOk (m.getD c 0) = true then ({ x with Regs := x.Regs.set a (m.getD c 0), Pc := IntKind.wrap .i64 (x.Pc + 1) }, if op = 9 then m.set c 1 else m, 0)
    else (x, m, 4)
  else if op = 7 then ({ x with Pc := if x.Regs.getD a 0 = 0 then (c : Int) else IntKind.wrap .i64 (x.Pc + 1) }, m, 0)
  else if op = 8 then ({ x with Pc := (c : Int) }, m, 0)
  else if op = 10 then ({ x with Pc := IntKind.wrap .i64 (x.Pc + 1) }, m, 10)
  else
    let r : Int × Int := if op = 1 then ((c : Int), 0) else if op = 4 then calcF c (x.Regs.getD a 0) (x.Regs.getD b 0) else if op = 5 then (bitF (decide (x.Regs.getD a 0 = 0)), 0) else negF (x.Regs.getD a 0)
    if r.2 = 0 then ({ x with Regs := x.Regs.set a r.1, Pc := IntKind.wrap .i64 (x.Pc + 1) }, m, 0) else (x, m, r.2)
def stepF (x : DCore) (t m : List Int) : DCore × List Int × Int :=
  if coreOkF x = true ∧ (0 ≤ x.Pc ∧ x.Pc ≤ (t.length : Int) - 1) ∧ decOk (t.getD x.Pc.toNat 0) = true then stepG x m (dOp (t.getD x.Pc.toNat 0)) (dA (t.getD x.Pc.toNat 0)).toNat (dB (t.getD x.Pc.toNat 0)).toNat (dC (t.getD x.Pc.toNat 0)).toNat else (x, m, 4)
theorem decOk_bounds {w : Int} (h : decOk w = true) : ∃ op : Int, ∃ a b c : Nat, dOp w = op ∧ dA w = (a : Int) ∧ dB w = (b : Int) ∧ dC w = (c : Int) ∧ (1 ≤ op ∧ op ≤ 10) ∧ a < 8 ∧ b < 8 ∧ c ≤ 4194303 := by
  simp only [decOk, insOk, Bool.and_eq_true, decide_eq_true_eq] at h
  exact ⟨dOp w, (dA w).toNat, (dB w).toNat, (dC w).toNat, rfl, by omega, by omega, by omega, by omega, by omega, by omega, by omega⟩
theorem coreOk_len {x : DCore} (h : coreOkF x = true) : x.Regs.length = 8 ∧ 0 ≤ x.Pc := by
  simp only [coreOkF, Bool.and_eq_true, decide_eq_true_eq] at h
  exact ⟨h.2.1, h.2.2.1⟩
theorem stepG_len {x : DCore} {m : List Int} {op : Int} {a b c : Nat} : (stepG x m op a b c).1.Regs.length = x.Regs.length ∧ (stepG x m op a b c).2.1.length = m.length := by
  unfold stepG
  dsimp only
  repeat' split
  all_goals first | exact ⟨rfl, rfl⟩ | (simp only [List.length_set]; exact ⟨rfl, rfl⟩) | simp
theorem stepF_regs {x : DCore} {t m : List Int} : (stepF x t m).1.Regs.length = x.Regs.length := by
  unfold stepF; split
  · exact stepG_len.1
  · rfl
theorem stepF_mem {x : DCore} {t m : List Int} : (stepF x t m).2.1.length = m.length := by
  unfold stepF; split
  · exact stepG_len.2
  · rfl
def nV (m : DMonitor) : Nat := m.Vars.length
def nP (q : DProcess) : Nat := q.Vars.length + 2
def pv (p : DProgram) (k : Nat) : Nat := match p.Processes[k]? with | some q => q.Vars.length | none => 0
theorem pv_eq {p : DProgram} {k : Nat} (h : k < p.Processes.length) : pv p k = p.Processes[k].Vars.length := by simp [pv, h]
def procIn (p : DProgram) (k : Int) : Prop := 0 ≤ k ∧ k ≤ (p.Processes.length : Int) - 1
instance (p : DProgram) (k : Int) : Decidable (procIn p k) := inferInstanceAs (Decidable (_ ∧ _))
def varAt (p : DProgram) (k i : Int) : Int := if (0 ≤ k ∧ k ≤ (p.Processes.length : Int) - 1) ∧ (0 ≤ i ∧ i ≤ (pv p k.toNat : Int)) then ((1 + tot nV p.Monitors + tot nP (p.Processes.take k.toNat) : Nat) : Int) + i else -1
theorem tot_drop {α : Type} {f : α → Nat} {xs : List α} {i : Nat} (h : i < xs.length) : tot f (xs.drop i) = f xs[i] + tot f (xs.drop (i + 1)) := by
  rw [List.drop_eq_getElem_cons h]; rfl
theorem totTake_le {α : Type} {f : α → Nat} : ∀ {xs : List α} {n : Nat}, tot f (xs.take n) ≤ tot f xs
  | [], n => by simp
  | x :: xs, 0 => by simp [tot]
  | x :: xs, n + 1 => by have := @totTake_le α f xs n; simp only [List.take_succ_cons, tot]; omega
theorem tot_mono {α : Type} {f g : α → Nat} (h : ∀ x, f x ≤ g x) : ∀ {xs : List α}, tot f xs ≤ tot g xs
  | [] => Nat.le_refl _
  | x :: xs => by have := @tot_mono _ _ _ h xs; have := h x; simp only [tot]; omega
theorem tot_nP : ∀ {xs : List DProcess}, tot nP xs ≤ tot wtProcess xs + 2 * xs.length
  | [] => Nat.le_refl _
  | x :: xs => by have := @tot_nP xs; simp only [tot, nP, wtProcess, List.length_cons]; omega
theorem tot_nV {xs : List DMonitor} : tot nV xs ≤ tot wtMonitor xs := tot_mono fun x => by unfold nV wtMonitor; omega
def atsF (p : DProgram) (k : Int) : List ByteArray → Nat → List Int
  | [], _ => []
  | _ :: r, i => varAt p k i :: atsF p k r (i + 1)
def varsOf (p : DProgram) (k : Nat) : List ByteArray := match p.Processes[k]? with | some q => q.Vars | none => []
theorem varsOf_eq {p : DProgram} {k : Nat} (h : k < p.Processes.length) : varsOf p k = p.Processes[k].Vars := by simp [varsOf, h]
def ownPlaces (p : DProgram) (k : Int) : DPlaces := if 0 ≤ k ∧ k ≤ (p.Processes.length : Int) - 1 then ⟨varsOf p k.toNat, atsF p k (varsOf p k.toNat) 0⟩ else ⟨[], []⟩
theorem atsF_len {p : DProgram} {k : Int} : ∀ {xs : List ByteArray} {i : Nat}, (atsF p k xs i).length = xs.length
  | [], _ => rfl
  | x :: xs, i => by simp only [atsF, List.length_cons, @atsF_len p k xs (i + 1)]
theorem ownPlaces_wt {p : DProgram} {k : Int} : wtPlaces (ownPlaces p k) ≤ 2 * tot wtProcess p.Processes := by
  unfold ownPlaces
  split
  · simp only [wtPlaces, atsF_len]
    unfold varsOf
    cases h : p.Processes[k.toNat]? with
    | none => simp [tot]
    | some q =>
      have := le_tot wtProcess (List.mem_of_getElem? h)
      simp only [wtProcess] at this
      simp only; omega
  · simp [wtPlaces, tot]
def mv (p : DProgram) (k : Nat) : Nat := match p.Monitors[k]? with | some q => q.Vars.length | none => 0
theorem mv_eq {p : DProgram} {k : Nat} (h : k < p.Monitors.length) : mv p k = p.Monitors[k].Vars.length := by simp [mv, h]
def sharedAt (p : DProgram) (k i : Int) : Int := if (0 ≤ k ∧ k ≤ (p.Monitors.length : Int) - 1) ∧ (0 ≤ i ∧ i ≤ (mv p k.toNat : Int) - 1) then ((1 + tot nV (p.Monitors.take k.toNat) : Nat) : Int) + i else -1
def argAt (p : DProgram) (k : Int) : Int := if 0 ≤ k ∧ k ≤ (p.Processes.length : Int) - 1 then varAt p k (pv p k.toNat) else -1
def resultAt (p : DProgram) (k : Int) : Int := if argAt p k < 0 then -1 else IntKind.wrap .i64 (argAt p k + 1)
theorem nV_lt {p : DProgram} {k : Nat} (h : k < p.Monitors.length) : p.Monitors[k].Vars.length + tot nV (p.Monitors.take k) ≤ tot nV p.Monitors := by
  have := @tot_take _ nV p.Monitors k h
  have : nV p.Monitors[k] = p.Monitors[k].Vars.length := rfl
  omega
def satsF (p : DProgram) (m : Int) : List ByteArray → Nat → List Int
  | [], _ => []
  | _ :: r, i => sharedAt p m i :: satsF p m r (i + 1)
def mvars (p : DProgram) (m : Nat) : List ByteArray := match p.Monitors[m]? with | some q => q.Vars | none => []
def ents (p : DProgram) (m : Nat) : List DEntry := match p.Monitors[m]? with | some q => q.Entries | none => []
def paramOf (p : DProgram) (m n : Nat) : ByteArray := match (ents p m)[n]? with | some q => q.Param | none => ⟨#[]⟩
theorem mvars_eq {p : DProgram} {m : Nat} (h : m < p.Monitors.length) : mvars p m = p.Monitors[m].Vars := by simp [mvars, h]
theorem ents_eq {p : DProgram} {m : Nat} (h : m < p.Monitors.length) : ents p m = p.Monitors[m].Entries := by simp [ents, h]
theorem param_eq {p : DProgram} {m n : Nat} (h : m < p.Monitors.length) (h2 : n < p.Monitors[m].Entries.length) : paramOf p m n = p.Monitors[m].Entries[n].Param := by
  unfold paramOf; rw [ents_eq h]; simp [h2]
def resB : ByteArray := ⟨#[114, 101, 115, 117, 108, 116]⟩
def entryPlaces (p : DProgram) (k m n : Int) : DPlaces :=
  if (0 ≤ k ∧ k ≤ (p.Processes.length : Int) - 1) ∧ (0 ≤ m ∧ m ≤ (p.Monitors.length : Int) - 1) ∧ (0 ≤ n ∧ n ≤ ((ents p m.toNat).length : Int) - 1) then ⟨[paramOf p m.toNat n.toNat, resB] ++ mvars p m.toNat, [argAt p k, resultAt p k] ++ satsF p m (mvars p m.toNat) 0⟩ else ⟨[], []⟩
theorem satsF_len {p : DProgram} {k : Int} : ∀ {xs : List ByteArray} {i : Nat}, (satsF p k xs i).length = xs.length
  | [], _ => rfl
  | x :: xs, i => by simp only [satsF, List.length_cons, @satsF_len p k xs (i + 1)]
theorem entryPlaces_wt {p : DProgram} {k m n : Int} : wtPlaces (entryPlaces p k m n) ≤ 3 * tot wtMonitor p.Monitors + 100 := by
  unfold entryPlaces
  split
  · simp only [wtPlaces, List.length_append, satsF_len, List.length_cons, List.length_nil, List.cons_append, List.nil_append, tot]
    have hr : wtS resB = 6 := rfl
    unfold paramOf mvars ents
    cases h : p.Monitors[m.toNat]? with
    | none => simp [tot, wtS] at *; omega
    | some q =>
      have h1 := le_tot wtMonitor (List.mem_of_getElem? h)
      simp only [wtMonitor] at h1
      simp only
      cases h2 : q.Entries[n.toNat]? with
      | none =>
        have : wtS (⟨#[]⟩ : ByteArray) = 0 := rfl
        simp only; omega
      | some e =>
        have h3 := le_tot wtEntry (List.mem_of_getElem? h2)
        simp only [wtEntry] at h3
        have : wtS e.Param = e.Param.size := rfl
        simp only; omega
  · simp [wtPlaces, tot]
theorem sem_laws_big (bs : List UInt8) : S_laws_big.sem [.tree 1 (bs.map cY)] = some (.bool (decide (1048576 < (bs.length : Int))), []) := by
  rw [sg_laws_big, sem_go]
  simp (maxSteps := 10000000) (disch := first | assumption | omega) only [F_laws_big, params, EG, EL, simprocAttr, FB, ED, cx_laws_big, gt_iff_lt]
/-! what is drawn: numbers, words, cores -/
def cC (c : Cur) : Option Blk := some ⟨true, 0, 3, [[.tree 1 (c.b.map cY), .int .i64 (c.i : Int), .int .i64 c.h]]⟩
def pickF (l : List Int) (c : Cur) : Int × Cur := (l.getD (belowF l.length c).1.toNat 0, (belowF l.length c).2)
theorem pickF_b {l : List Int} {c : Cur} : (pickF l c).2.b = c.b := belowF_b
theorem pickF_mem {l : List Int} {c : Cur} (h : 0 < l.length) : (pickF l c).1 ∈ l := by
  have hb := @belowF_bd (l.length : Int) c (by omega)
  unfold pickF
  have hi : (belowF l.length c).1.toNat < l.length := by omega
  rw [List.getD_eq_getElem?_getD, List.getElem?_eq_getElem hi]
  exact List.getElem_mem hi
def placeF (n : Int) (c : Cur) : Int × Cur := if (belowF 15 c).1 = 0 then pickF [-1, n, IntKind.wrap .i64 (n + 1), 9223372036854775807, -9223372036854775808] (belowF 15 c).2 else belowF n (belowF 15 c).2
theorem placeF_b {n : Int} {c : Cur} : (placeF n c).2.b = c.b := by
  unfold placeF; split
  · rw [pickF_b, belowF_b]
  · rw [belowF_b, belowF_b]
theorem fsem_spec_l01Once (c : Cur) (n : Int) (hb : c.b.length ≤ 1048576) : H_spec_l01Once [.ptr ⟨0, none, 0⟩ 3 0 0, .int .i64 n] [some ⟨true, 0, 3, [[.tree 1 (c.b.map cY), .int .i64 (c.i : Int), .int .i64 c.h]]⟩] = some (.bool (decide ((belowF n c).1 = 0)), [some ⟨true, 0, 3, [[.tree 1 ((belowF n c).2.b.map cY), .int .i64 ((belowF n c).2.i : Int), .int .i64 (belowF n c).2.h]]⟩]) := by
  rw [sh_spec_l01Once, run_goF]
  simp (maxSteps := 10000000) (disch := first | assumption | omega) only [F_spec_l01Once, params, EG, EL, simprocAttr, FB, ED, EF, FT, cx_spec_l01Once, cl_spec_l01Below, fsem_spec_l01Below]
theorem fsem_spec_l01PickInt (l : List Int) (h0 : 0 < l.length) (hl : l.length ≤ 1000) (c : Cur) (hb : c.b.length ≤ 1048576) : H_spec_l01PickInt [.ptr ⟨0, none, 0⟩ 3 0 0, .sl ⟨1, none, 0⟩ 1 0 l.length] [some ⟨true, 0, 3, [[.tree 1 (c.b.map cY), .int .i64 (c.i : Int), .int .i64 c.h]]⟩, some ⟨false, 0, 1, l.map cI⟩] = some (.int .i64 (pickF l c).1, [some ⟨true, 0, 3, [[.tree 1 ((pickF l c).2.b.map cY), .int .i64 ((pickF l c).2.i : Int), .int .i64 (pickF l c).2.h]]⟩, some ⟨false, 0, 1, l.map cI⟩]) := by
  have hd := @belowF_bd (l.length : Int) c (by omega)
  have hi : (belowF l.length c).1.toNat < l.length := by omega
  have hg := getRow cI l hi
  have hp : pickF l c = (l[(belowF l.length c).1.toNat], (belowF l.length c).2) := by
    unfold pickF
    rw [List.getD_eq_getElem?_getD, List.getElem?_eq_getElem hi]; rfl
  rw [sh_spec_l01PickInt, run_goF, hp]
  simp (maxSteps := 10000000) (disch := first | assumption | omega) only [F_spec_l01PickInt, params, EG, EL, simprocAttr, FB, ED, EF, FT, cx_spec_l01PickInt, cl_spec_l01Below, fsem_spec_l01Below, hd, hi, hg]
def l14F (c : Cur) : DIns × Cur :=
  if (belowF 10 c).1 = 0 then (⟨1, (belowF 8 (belowF 10 c).2).1, 0, (pickF [0, 1, 7, 1000000] (belowF 8 (belowF 10 c).2).2).1⟩, (pickF [0, 1, 7, 1000000] (belowF 8 (belowF 10 c).2).2).2)
  else if (belowF 10 c).1 = 3 then (⟨4, (belowF 8 (belowF 10 c).2).1, (belowF 8 (belowF 8 (belowF 10 c).2).2).1, 1 + (belowF 9 (belowF 8 (belowF 8 (belowF 10 c).2).2).2).1⟩, (belowF 9 (belowF 8 (belowF 8 (belowF 10 c).2).2).2).2)
  else if (belowF 10 c).1 = 4 ∨ (belowF 10 c).1 = 5 then (⟨1 + (belowF 10 c).1, (belowF 8 (belowF 10 c).2).1, 0, 0⟩, (belowF 8 (belowF 10 c).2).2)
  else if (belowF 10 c).1 = 7 then (⟨8, 0, 0, (belowF 20 (belowF 8 (belowF 10 c).2).2).1⟩, (belowF 20 (belowF 8 (belowF 10 c).2).2).2)
  else if (belowF 10 c).1 = 9 then (⟨10, 1 + (belowF 7 (belowF 8 (belowF 10 c).2).2).1, 0, (belowF 5 (belowF 7 (belowF 8 (belowF 10 c).2).2).2).1⟩, (belowF 5 (belowF 7 (belowF 8 (belowF 10 c).2).2).2).2)
  else (⟨1 + (belowF 10 c).1, (belowF 8 (belowF 10 c).2).1, 0, (belowF 30 (belowF 8 (belowF 10 c).2).2).1⟩, (belowF 30 (belowF 8 (belowF 10 c).2).2).2)
theorem l14F_b {c : Cur} : (l14F c).2.b = c.b := by
  unfold l14F
  (repeat' split) <;> simp only [belowF_b, pickF_b]
theorem l14F_ok {c : Cur} : insOk (l14F c).1.Op (l14F c).1.A (l14F c).1.B (l14F c).1.C = true := by
  have d1 := @belowF_bd 10 c (by decide)
  have d2 := @belowF_bd 8 (belowF 10 c).2 (by decide)
  unfold l14F
  split
  · have := @pickF_mem [0, 1, 7, 1000000] (belowF 8 (belowF 10 c).2).2 (by simp)
    simp only [List.mem_cons, List.mem_nil_iff, or_false] at this
    unfold insOk; apply decide_eq_true; dsimp only; omega
  · split
    · have d3 := @belowF_bd 8 (belowF 8 (belowF 10 c).2).2 (by decide)
      have d4 := @belowF_bd 9 (belowF 8 (belowF 8 (belowF 10 c).2).2).2 (by decide)
      unfold insOk; apply decide_eq_true; dsimp only; omega
    · split
      · unfold insOk; apply decide_eq_true; dsimp only; omega
      · split
        · have d3 := @belowF_bd 20 (belowF 8 (belowF 10 c).2).2 (by decide)
          unfold insOk; apply decide_eq_true; dsimp only; omega
        · split
          · have d3 := @belowF_bd 7 (belowF 8 (belowF 10 c).2).2 (by decide)
            have d4 := @belowF_bd 5 (belowF 7 (belowF 8 (belowF 10 c).2).2).2 (by decide)
            unfold insOk; apply decide_eq_true; dsimp only; omega
          · have d3 := @belowF_bd 30 (belowF 8 (belowF 10 c).2).2 (by decide)
            unfold insOk; apply decide_eq_true; dsimp only; omega
set_option maxHeartbeats 2000000 in
theorem fsem_spec_l14Ins (c : Cur) (hb : c.b.length ≤ 1048576) : H_spec_l14Ins [.ptr ⟨0, none, 0⟩ 3 0 0] [some ⟨true, 0, 3, [[.tree 1 (c.b.map cY), .int .i64 (c.i : Int), .int .i64 c.h]]⟩] = some (.agg [.int .i64 (l14F c).1.Op, .int .i64 (l14F c).1.A, .int .i64 (l14F c).1.B, .int .i64 (l14F c).1.C], [some ⟨true, 0, 3, [[.tree 1 ((l14F c).2.b.map cY), .int .i64 ((l14F c).2.i : Int), .int .i64 (l14F c).2.h]]⟩]) := by
  have b1 : (belowF 10 c).2.b.length ≤ 1048576 := by rw [belowF_b]; exact hb
  have b2 : (belowF 8 (belowF 10 c).2).2.b.length ≤ 1048576 := by rw [belowF_b]; exact b1
  have b3 : (belowF 8 (belowF 8 (belowF 10 c).2).2).2.b.length ≤ 1048576 := by rw [belowF_b]; exact b2
  have b4 : (belowF 7 (belowF 8 (belowF 10 c).2).2).2.b.length ≤ 1048576 := by rw [belowF_b]; exact b2
  have p1 := fsem_spec_l01PickInt [0, 1, 7, 1000000] (by simp) (by simp)
  simp only [EG, EL, simprocAttr, FB] at p1
  have d1 := @belowF_bd 10 c (by decide)
  have d3 := @belowF_bd 9 (belowF 8 (belowF 8 (belowF 10 c).2).2).2 (by decide)
  have d4 := @belowF_bd 7 (belowF 8 (belowF 10 c).2).2 (by decide)
  have hk : (belowF 10 c).1 = 0 ∨ (belowF 10 c).1 = 1 ∨ (belowF 10 c).1 = 2 ∨ (belowF 10 c).1 = 3 ∨ (belowF 10 c).1 = 4 ∨ (belowF 10 c).1 = 5 ∨ (belowF 10 c).1 = 6 ∨ (belowF 10 c).1 = 7 ∨ (belowF 10 c).1 = 8 ∨ (belowF 10 c).1 = 9 := by omega
  rw [sh_spec_l14Ins, run_goF]
  rcases hk with hk | hk | hk | hk | hk | hk | hk | hk | hk | hk
  all_goals simp (maxSteps := 10000000) (disch := first | assumption | omega) only [F_spec_l14Ins, params, EG, EL, simprocAttr, FB, ED, EF, FT, cx_spec_l14Ins, cl_spec_l01Below, fsem_spec_l01Below, cl_spec_l01PickInt, p1, l14F, hk, Int.reduceAdd, wrapI, decide_true, decide_false, true_or, or_true, or_false, false_or]
theorem sh28 {x : Int} : bin .shl (.int .i64 x) (.int .u64 28) = some (.int .i64 (IntKind.wrap .i64 (x * 268435456))) := rfl
theorem sh25 {x : Int} : bin .shl (.int .i64 x) (.int .u64 25) = some (.int .i64 (IntKind.wrap .i64 (x * 33554432))) := rfl
theorem sh22 {x : Int} : bin .shl (.int .i64 x) (.int .u64 22) = some (.int .i64 (IntKind.wrap .i64 (x * 4194304))) := rfl
def encN (op a b c : Int) : Int := op * 268435456 + a * 33554432 + b * 4194304 + c
def encF (op a b c : Int) : Int := if insOk op a b c = true then encN op a b c else 0
theorem insOk_bd {op a b c : Int} (h : insOk op a b c = true) : (1 ≤ op ∧ op ≤ 10) ∧ (0 ≤ a ∧ a ≤ 7) ∧ (0 ≤ b ∧ b ≤ 7) ∧ (0 ≤ c ∧ c ≤ 4194303) := by
  unfold insOk at h
  have := of_decide_eq_true h
  exact ⟨this.1, this.2.1, this.2.2.1, this.2.2.2.1⟩
theorem sem_spec_Encode (op a b c : Int) : S_spec_Encode.sem [.agg [.int .i64 op, .int .i64 a, .int .i64 b, .int .i64 c]] = some (.tup [.int .i64 (encF op a b c), .bool (insOk op a b c)], []) := by
  rw [sg_spec_Encode, sem_go]
  unfold encF
  cases h : insOk op a b c
  · simp (maxSteps := 10000000) (disch := first | assumption | omega) only [F_spec_Encode, params, EG, EL, simprocAttr, FB, ED, FT, cx_spec_Encode, cl_spec_InsOk, sem_spec_InsOk, h]
  · have hb := insOk_bd h
    simp (maxSteps := 10000000) (disch := first | assumption | omega) only [F_spec_Encode, params, EG, EL, simprocAttr, FB, ED, FT, cx_spec_Encode, cl_spec_InsOk, sem_spec_InsOk, h, sh28, sh25, sh22, wrapI, encN]
theorem sem_impl_Encode (op a b c : Int) : S_impl_Encode.sem [.agg [.int .i64 op, .int .i64 a, .int .i64 b, .int .i64 c]] = some (.tup [.int .i64 (encF op a b c), .bool (insOk op a b c)], []) := by
  rw [sg_impl_Encode, sem_go]
  unfold encF
  cases h : insOk op a b c
  · simp (maxSteps := 10000000) (disch := first | assumption | omega) only [F_impl_Encode, params, EG, EL, simprocAttr, FB, ED, FT, cx_impl_Encode, cl_impl_InsOk, sem_impl_InsOk, h]
  · have hb := insOk_bd h
    simp (maxSteps := 10000000) (disch := first | assumption | omega) only [F_impl_Encode, params, EG, EL, simprocAttr, FB, ED, FT, cx_impl_Encode, cl_impl_InsOk, sem_impl_InsOk, h, sh28, sh25, sh22, wrapI, encN]
/-! bytes and strings; numbers as bytes -/
def bsA (l : List UInt8) : ByteArray := ⟨l.toArray⟩
theorem bsA_nil : (⟨#[]⟩ : ByteArray) = bsA [] := rfl
theorem bsA_size {l : List UInt8} : (bsA l).size = l.length := by simp [bsA, ByteArray.size]
theorem bsA_app {a b : List UInt8} : bsA a ++ bsA b = bsA (a ++ b) := by
  apply ByteArray.ext
  simp [bsA]
theorem bsA_mk {l : List UInt8} : (⟨l.toArray⟩ : ByteArray) = bsA l := rfl
theorem bsA_inj {a b : List UInt8} : bsA a = bsA b ↔ a = b := by
  constructor
  · intro h
    have := congrArg (fun x : ByteArray => x.data.toList) h
    simpa [bsA] using this
  · intro h; rw [h]
theorem bytesOf_map : ∀ {l : List UInt8}, bytesOf (l.map cY) = some l
  | [] => rfl
  | b :: l => by
    simp only [List.map_cons, cY, bytesOf, bytesOf_map (l := l), Option.map_some]
    congr 1
    simp
theorem map_cY_snoc {xs : List UInt8} {v : Int} {b : UInt8} (h : v = (b.toNat : Int)) : xs.map cY ++ [[.int .u8 v]] = (xs ++ [b]).map cY := by rw [h]; exact snoc_cY
theorem wrap_u8 {k : Nat} (h : k < 256) : IntKind.wrap .u8 (k : Int) = ((UInt8.ofNat k).toNat : Int) := by
  have : (UInt8.ofNat k).toNat = k := by rw [UInt8.toNat_ofNat']; exact Nat.mod_eq_of_lt h
  rw [this]
  have e : ∀ j : Int, 0 ≤ j → j < 256 → IntKind.wrap .u8 j = j := by
    intro j h1 h2
    simp [IntKind.wrap, IntKind.signed, IntKind.bits]
    omega
  exact e _ (by omega) (by omega)
def varI (n : Nat) : List UInt8 := if h : 127 < n then UInt8.ofNat (n % 128 + 128) :: varI (n / 128) else []
termination_by n
decreasing_by omega
def varL (n : Nat) : Nat := if h : 127 < n then varL (n / 128) else n
termination_by n
decreasing_by omega
theorem varI_hi {n : Nat} (h : 127 < n) : varI n = UInt8.ofNat (n % 128 + 128) :: varI (n / 128) := by rw [varI, dif_pos h]
theorem varI_lo {n : Nat} (h : ¬ 127 < n) : varI n = [] := by rw [varI, dif_neg h]
theorem varL_hi {n : Nat} (h : 127 < n) : varL n = varL (n / 128) := by rw [varL, dif_pos h]
theorem varL_lo {n : Nat} (h : ¬ 127 < n) : varL n = n := by rw [varL, dif_neg h]
theorem varL_le (n : Nat) : varL n ≤ 127 := by
  induction n using Nat.strongRecOn with
  | ind n ih =>
    by_cases h : 127 < n
    · rw [varL_hi h]; exact ih _ (by omega)
    · rw [varL_lo h]; omega
theorem varI_len (n : Nat) : (varI n).length ≤ n := by
  induction n using Nat.strongRecOn with
  | ind n ih =>
    by_cases h : 127 < n
    · rw [varI_hi h, List.length_cons]
      have := ih (n / 128) (by omega)
      omega
    · rw [varI_lo h]; simp
theorem varI_len5 (n : Nat) (h : n ≤ 17179869184) : (varI n).length ≤ 4 := by
  by_cases h1 : 127 < n
  · rw [varI_hi h1]
    by_cases h2 : 127 < n / 128
    · rw [varI_hi h2]
      by_cases h3 : 127 < n / 128 / 128
      · rw [varI_hi h3]
        by_cases h4 : 127 < n / 128 / 128 / 128
        · rw [varI_hi h4]
          by_cases h5 : 127 < n / 128 / 128 / 128 / 128
          · omega
          · rw [varI_lo h5]; simp
        · rw [varI_lo h4]; simp
      · rw [varI_lo h3]; simp
    · rw [varI_lo h2]; simp
  · rw [varI_lo h1]; simp
def varN (n : Nat) : List UInt8 := varI n ++ [UInt8.ofNat (varL n)]
theorem varN_len (n : Nat) (h : n ≤ 17179869184) : (varN n).length ≤ 5 := by
  have := varI_len5 n h
  unfold varN
  simp only [List.length_append, List.length_singleton]; omega
theorem tmod_cast {n : Nat} : Int.tmod (n : Int) 128 = ((n % 128 : Nat) : Int) := by
  rw [Int.tmod_eq_emod_of_nonneg (by omega)]; omega
theorem tdiv_cast {n : Nat} : Int.tdiv (n : Int) 128 = ((n / 128 : Nat) : Int) := by
  rw [Int.tdiv_eq_ediv_of_nonneg (by omega)]; omega
theorem seg_snocY {xs : List UInt8} {b : UInt8} : seg ((xs ++ [b]).map cY) 0 (xs.length + 1) = (xs ++ [b]).map cY := by
  unfold seg
  rw [List.drop_zero, List.take_of_length_le (by simp)]
theorem byte_hi {n : Nat} : IntKind.wrap .u8 (IntKind.wrap .i64 (Int.tmod (n : Int) 128 + 128)) = ((UInt8.ofNat (n % 128 + 128)).toNat : Int) := by
  rw [tmod_cast, wrapI (by omega) (by omega)]
  have : ((n % 128 : Nat) : Int) + 128 = ((n % 128 + 128 : Nat) : Int) := by omega
  rw [this]
  exact wrap_u8 (by omega)
def xor32 (x y : Int) : Int := IntKind.wrap .u32 (BitVec.ofInt 32 x ^^^ BitVec.ofInt 32 y).toNat
theorem bxor32 {x y : Int} : bin .xor (.int .u32 x) (.int .u32 y) = some (.int .u32 (xor32 x y)) := rfl
def roundF (s : Int) : Int := if s.tmod 2 = 1 then xor32 (IntKind.wrap .u32 (s.tdiv 2)) 3558460437 else IntKind.wrap .u32 (s.tdiv 2)
def roundsF : List Unit → Int → Int
  | [], s => s
  | _ :: r, s => roundsF r (roundF s)
def sumF : List UInt8 → Int → Int
  | [], s => s
  | b :: r, s => sumF r (roundsF (List.replicate 8 ()) (xor32 s (IntKind.wrap .u32 (b.toNat : Int))))
def h24 (x : Int) : Int := x.fdiv (2 ^ 24)
def h16 (x : Int) : Int := x.fdiv (2 ^ 16)
def h8 (x : Int) : Int := x.fdiv (2 ^ 8)
theorem bh24 {x : Int} : bin .shr (.int .u32 x) (.int .u64 24) = some (.int .u32 (h24 x)) := rfl
theorem bh16 {x : Int} : bin .shr (.int .u32 x) (.int .u64 16) = some (.int .u32 (h16 x)) := rfl
theorem bh8 {x : Int} : bin .shr (.int .u32 x) (.int .u64 8) = some (.int .u32 (h8 x)) := rfl
def fourF (x : Int) : List UInt8 := [UInt8.ofNat (IntKind.wrap .u8 (h24 x)).toNat, UInt8.ofNat (IntKind.wrap .u8 (h16 x)).toNat, UInt8.ofNat (IntKind.wrap .u8 (h8 x)).toNat, UInt8.ofNat (IntKind.wrap .u8 x).toNat]
theorem seg_four {a b c d : List AV} : seg [a, b, c, d] 0 4 = [a, b, c, d] := rfl
theorem bsA_get {l : List UInt8} {i : Nat} (h : i < l.length) : (bsA l).data.getD i 0 = l[i] := by
  simp [bsA, Array.getD_eq_getD_getElem?, h]
def sealF (l : List UInt8) : List UInt8 × Bool := if 20000 < l.length then ([], false) else (l ++ fourF (sumF l 4294967295), true)
def stS (n : Int) : Option Int → List Int → Bool
  | _, [] => true
  | p, a :: r => decide (0 ≤ a ∧ a ≤ n - 1) && ((match p with | none => decide (a = 0) | some q => decide (q < a)) && stS n (some a) r)
def stI (n : Int) : Option Int → List Int → Bool
  | _, [] => true
  | p, a :: r => decide (a < n) && ((match p with | none => true | some q => decide (q < a)) && stI n (some a) r)
theorem stS_none {n a : Int} {r : List Int} : stS n none (a :: r) = (decide (0 ≤ a ∧ a ≤ n - 1) && (decide (a = 0) && stS n (some a) r)) := rfl
theorem stS_some {n a q : Int} {r : List Int} : stS n (some q) (a :: r) = (decide (0 ≤ a ∧ a ≤ n - 1) && (decide (q < a) && stS n (some a) r)) := rfl
theorem stI_none {n a : Int} {r : List Int} : stI n none (a :: r) = (decide (a < n) && (true && stI n (some a) r)) := rfl
theorem stI_some {n a q : Int} {r : List Int} : stI n (some q) (a :: r) = (decide (a < n) && (decide (q < a) && stI n (some a) r)) := rfl
theorem stSI {n : Int} : ∀ {q : Int} {xs : List Int}, 0 ≤ q → stS n (some q) xs = stI n (some q) xs
  | q, [], _ => rfl
  | q, a :: r, h => by
    rw [stS_some, stI_some]
    by_cases h1 : q < a
    · rw [stSI (q := a) (xs := r) (by omega)]
      have e : (decide (0 ≤ a ∧ a ≤ n - 1)) = decide (a < n) := by rw [decide_eq_decide]; omega
      rw [e]
    · simp [h1]
theorem stS_first {n : Int} (hn : 1 ≤ n) : ∀ (l : List Int) (h : 0 < l.length), stS n none l = (decide (l[0] = 0) && stI n none l)
  | [], h => by simp at h
  | y :: ys, _ => by
    simp only [List.getElem_cons_zero]
    rw [stS_none, stI_none]
    by_cases hy : y = 0
    · subst hy
      rw [stSI (Int.le_refl 0)]
      have e : decide ((0 : Int) ≤ 0 ∧ (0 : Int) ≤ n - 1) = decide ((0 : Int) < n) := by rw [decide_eq_decide]; omega
      rw [e]; simp
    · simp [hy]
def prevO (xs : List Int) : Nat → Option Int
  | 0 => none
  | j + 1 => xs[j]?
def wordB (n size w : Int) : Bool := decOk w && ((!(memF (dOp w) && decide (size ≤ dC w))) && (!((decide (dOp w = 7) || decide (dOp w = 8)) && decide (n ≤ dC w))))
def lastF : List Int → DIns → DIns
  | [], d => d
  | w :: r, _ => lastF r ⟨dOp w, dA w, dB w, dC w⟩
def imageOkF (x : DImage) : Bool := decide (1 ≤ (x.Starts.length : Int) ∧ (x.Starts.length : Int) ≤ 4) && (decide (1 ≤ (x.Text.length : Int) ∧ (x.Text.length : Int) ≤ 800) && (decide (1 ≤ x.Size ∧ x.Size ≤ 100) && (stS x.Text.length none x.Starts && (x.Text.all (wordB x.Text.length x.Size) && (decide ((lastF x.Text ⟨0, 0, 0, 0⟩).Op = 10) && decide ((lastF x.Text ⟨0, 0, 0, 0⟩).A = 7))))))
def varZ (n : Int) : List UInt8 := varN n.toNat
theorem varZ_len {n : Int} (h : n ≤ 17179869184) : (varZ n).length ≤ 5 := varN_len _ (by omega)
theorem byteE_bsA {l : List UInt8} : byteE (bsA l) = l.map cY := rfl
theorem map_cY_app {a b : List UInt8} : a.map cY ++ b.map cY = (a ++ b).map cY := by rw [List.map_append]
theorem map_cI_two {xs : List Int} {a b : Int} : xs.map cI ++ [[.int .i64 a], [.int .i64 b]] = (xs ++ [a, b]).map cI := by simp
theorem seg_two {a b : List AV} : seg [a, b] 0 2 = [a, b] := rfl
def midF (ws : List Int) : List Int := ws.flatMap fun w => [s22 w, dC w]
theorem midF_cons {w : Int} {ws : List Int} : midF (w :: ws) = [s22 w, dC w] ++ midF ws := rfl
theorem midF_nil : midF [] = [] := rfl
theorem midF_len : ∀ {ws : List Int}, (midF ws).length = 2 * ws.length
  | [] => rfl
  | w :: ws => by rw [midF_cons, List.length_append, midF_len (ws := ws)]; simp only [List.length_cons, List.length_nil]; omega
def varsF (ns : List Int) : List UInt8 := ns.flatMap varZ
theorem varsF_app {a b : List Int} : varsF (a ++ b) = varsF a ++ varsF b := by simp [varsF]
theorem varsF_one {a : Int} : varsF [a] = varZ a := by simp [varsF]
theorem varsF_cons {a : Int} {b : List Int} : varsF (a :: b) = varZ a ++ varsF b := by simp [varsF]
theorem varsF_nil : varsF [] = [] := rfl
theorem varsF_len : ∀ {ns : List Int}, (∀ n ∈ ns, n ≤ 17179869184) → (varsF ns).length ≤ 5 * ns.length
  | [], _ => by simp [varsF]
  | n :: ns, h => by
    rw [varsF_cons, List.length_append, List.length_cons]
    have h1 := varZ_len (h n (by simp))
    have h2 := varsF_len (ns := ns) fun m hm => h m (by simp [hm])
    omega
theorem dec_bd {w : Int} (h : decOk w = true) : (0 ≤ s22 w ∧ s22 w ≤ 1000000000) ∧ (0 ≤ dC w ∧ dC w ≤ 1000000000) := by
  unfold decOk at h
  simp only [Bool.and_eq_true, decide_eq_true_eq] at h
  obtain ⟨h0, h1⟩ := h
  have hb := insOk_bd h1
  have h2 : dOp w ≤ 10 := hb.1.2
  unfold dOp at h2
  rw [Int.fdiv_eq_ediv_of_nonneg _ (by decide)] at h2
  unfold s22
  rw [Int.fdiv_eq_ediv_of_nonneg _ (by decide)]
  omega
theorem mid_bd {ws : List Int} (h : ∀ w ∈ ws, decOk w = true) : ∀ n ∈ midF ws, 0 ≤ n ∧ n ≤ 1000000000 := by
  intro n hn
  unfold midF at hn
  rw [List.mem_flatMap] at hn
  obtain ⟨w, hw, hn⟩ := hn
  have := dec_bd (h w hw)
  simp only [List.mem_cons, List.mem_nil_iff, or_false] at hn
  rcases hn with rfl | rfl
  · exact this.1
  · exact this.2
def numsF (x : DImage) : List Int := ((x.Text.length : Int) :: midF x.Text) ++ ((x.Starts.length : Int) :: x.Starts) ++ [x.Size]
theorem imageOk_parts {x : DImage} (h : imageOkF x = true) : (1 ≤ (x.Starts.length : Int) ∧ (x.Starts.length : Int) ≤ 4) ∧ (1 ≤ (x.Text.length : Int) ∧ (x.Text.length : Int) ≤ 800) ∧ (1 ≤ x.Size ∧ x.Size ≤ 100) ∧ stS x.Text.length none x.Starts = true ∧ (∀ w ∈ x.Text, decOk w = true) := by
  unfold imageOkF at h
  simp only [Bool.and_eq_true, decide_eq_true_eq, List.all_eq_true] at h
  refine ⟨h.1, h.2.1, h.2.2.1, h.2.2.2.1, fun w hw => ?_⟩
  have := h.2.2.2.2.1 w hw
  unfold wordB at this
  simp only [Bool.and_eq_true] at this
  exact this.1
theorem stS_bd {n : Int} : ∀ {p : Option Int} {xs : List Int}, stS n p xs = true → ∀ a ∈ xs, 0 ≤ a ∧ a ≤ n - 1
  | p, [], _, a, ha => by simp at ha
  | p, y :: ys, h, a, ha => by
    unfold stS at h
    simp only [Bool.and_eq_true, decide_eq_true_eq] at h
    rcases List.mem_cons.1 ha with rfl | ha
    · exact h.1
    · exact stS_bd h.2.2 a ha
theorem nums_bd {x : DImage} (h : imageOkF x = true) : ∀ n ∈ numsF x, 0 ≤ n ∧ n ≤ 1000000000 := by
  obtain ⟨h1, h2, h3, h4, h5⟩ := imageOk_parts h
  intro n hn
  unfold numsF at hn
  simp only [List.mem_append, List.mem_cons, List.mem_nil_iff, or_false] at hn
  rcases hn with ((rfl | hn) | (rfl | hn)) | rfl
  · omega
  · exact mid_bd h5 n hn
  · omega
  · have := stS_bd h4 n hn; omega
  · omega
theorem nums_len {x : DImage} : (numsF x).length = 2 * x.Text.length + x.Starts.length + 3 := by
  unfold numsF
  simp only [List.length_append, List.length_cons, List.length_nil, midF_len]; omega
def imageTextF (x : DImage) : List UInt8 × Bool := if imageOkF x = true then sealF (varsF (numsF x)) else ([], false)
theorem imageText_len (x : DImage) (h : imageOkF x = true) : (varsF (numsF x)).length ≤ 100000 := by
  have h1 := varsF_len (ns := numsF x) fun n hn => by have := nums_bd h n hn; omega
  rw [nums_len] at h1
  have := imageOk_parts h
  omega
theorem sem_laws_sameInts_same (xs : List Int) (hl : xs.length ≤ 140737488351232) : S_laws_sameInts.sem [.tree 1 (xs.map cI), .tree 1 (xs.map cI)] = some (.bool true, []) := by
  have loop : loopV X_laws_sameInts 0 [0, 1, 5] [(1, []), (0, [4])] B0_laws_sameInts ⟨[(0, .tree 1 (xs.map cI)), (1, .tree 1 (xs.map cI)), (5, .int .i64 0)], []⟩ = some (.exit 0, ⟨[], []⟩) := by
    refine loop_list xs (fun _ (_ : Unit) => True) (fun i _ => ⟨[(0, .tree 1 (xs.map cI)), (1, .tree 1 (xs.map cI)), (5, .int .i64 (i : Int))], []⟩) (fun rest _ => some (.exit 0, ⟨[], []⟩)) ?_ ?_ () trivial
    · intro _ _
      rw [loopV_by B0_laws_sameInts.eq_1]
      simp only [EG, EL, simprocAttr, FB, ED, int_lt_irrefl]
    · rintro i h y rest _ rfl rfl _ ih
      have hi : (i : Int) < (xs.length : Int) := by omega
      rw [loopV_by B0_laws_sameInts.eq_1]
      simp (maxSteps := 10000000) (disch := first | assumption | omega) only [EG, EL, simprocAttr, FB, ED, FT, cx_laws_sameInts, hi, wrap_succ, getRow _ _ h, ih () trivial, decide_true, decide_false]
  rw [sg_laws_sameInts, sem_go]
  simp (maxSteps := 10000000) (disch := first | assumption | omega) only [F_laws_sameInts, params, EG, EL, simprocAttr, FB, ED, loop]
def okM (x : DMachine) : Prop := (x.Image.Text.length ≤ 1048576 ∧ x.Image.Starts.length ≤ 1048576 ∧ x.Mem.length ≤ 1048576 ∧ x.Cores.length ≤ 1048576 ∧ x.Input.length ≤ 1048576 ∧ x.Events.length ≤ 1048576) ∧ (x.Kernel.Gates.length ≤ 1048576 ∧ x.Kernel.Saved.length ≤ 1048576 ∧ x.Kernel.Ready.length ≤ 1048576 ∧ x.Kernel.Over.length ≤ 1048576) ∧ (∀ y ∈ x.Kernel.Gates, y.Waits.length + y.Queues.length ≤ 1048575) ∧ (∀ y ∈ x.Kernel.Saved, y.Regs.length ≤ 1048576) ∧ (∀ y ∈ x.Cores, y.Regs.length ≤ 1048576)
theorem set_same {α : Type} {f : α → List AV} {L : List α} {i : Nat} (hi : i < L.length) {c : List AV} (h : (L.map f).getD i [] = c) : (L.map f).set i c = L.map f := by
  have h2 : i < (L.map f).length := by rw [List.length_map]; exact hi
  rw [List.getD_eq_getElem?_getD, List.getElem?_eq_getElem h2] at h
  rw [← h]; exact List.set_getElem_self h2
theorem pE (p : Prop) : p = True ∨ p = False := (Classical.em p).elim (fun h => .inl (eq_true h)) (fun h => .inr (eq_false h))
theorem snocE (E : List DEvent) (p a b : Int) : E.map cEvent ++ [[.int .i64 p, .int .i64 a, .int .i64 b]] = (E ++ ([⟨p, a, b⟩] : List DEvent)).map cEvent := by simp
theorem mem0 (M : List Int) : (((0 : Int) < (M.length : Int)) = True ∧ 0 < M.length ∧ (M.map cI).getD 0 [] = [.int .i64 (M.getD 0 0)]) ∨ (((0 : Int) < (M.length : Int)) = False ∧ M.set 0 0 = M ∧ True) := by
  cases M with
  | nil => exact .inr ⟨by simp, rfl, trivial⟩
  | cons a M => exact .inl ⟨eq_true (by simp only [List.length_cons]; omega), by simp, by simp⟩
theorem rng1 (p : Int) (L : List DCore) (h0 : 0 ≤ p) : ((p ≤ (L.length : Int) - 1) = True ∧ p.toNat < L.length ∧ p < (L.length : Int) ∧ (L.map cCore).getD p.toNat [] = [.tree 1 ((L.getD p.toNat coreNew).Regs.map cI), .int .i64 (L.getD p.toNat coreNew).Pc, .int .i64 (L.getD p.toNat coreNew).Process]) ∨ ((p ≤ (L.length : Int) - 1) = False ∧ True ∧ True ∧ True) := by
  by_cases h : p ≤ (L.length : Int) - 1
  · have h2 : p.toNat < L.length := by omega
    refine .inl ⟨eq_true h, h2, by omega, ?_⟩
    rw [getRow _ _ h2]; simp [h2]
  · exact .inr ⟨eq_false h, trivial, trivial, trivial⟩
theorem renQ_none {base : Nat} {fd : List Nat} {r : BRef} : renQ none base fd r = none := rfl
theorem renSl_none {i o l : Nat} : renSl none i o l = .gone := rfl
theorem renPt_none {i o l : Nat} : renPt none i o l = .gone := rfl
theorem roots_gone' : roots .gone = [] := rfl
theorem snocR (R : List Int) (v : Int) : R.map cI ++ [[.int .i64 v]] = (R ++ [v]).map cI := by simp
def gate0 : DGate := ⟨0, [], []⟩
def tellM (y : DMachine) (p k n : Int) : DMachine := { y with Events := y.Events ++ [⟨p, k, n⟩] }
def faultM (y : DMachine) (p f : Int) : DMachine := { y with Events := y.Events ++ [⟨p, 8, f⟩], Stopped := true }
def gateR (G : DGate) (p a b : Int) : DGate × Int × Bool × Bool :=
  if a = 1 then ((arriveG G p).1, -1, !(arriveG G p).2, true) else if a = 2 then ((leaveG G).1, (leaveG G).2, false, true) else if a = 4 then ((contG G b).1, (contG G b).2, false, true) else ((delayG G b).1, (delayG G b).2.1, true, (delayG G b).2.2)
def gateM (y : DMachine) (k : Nat) (c : DCore) (a : Int) (g : Nat) (r : DGate × Int × Bool × Bool) : DMachine :=
  if r.2.2.2 = true then
    { y with Kernel := wakeK (if r.2.2.1 = true then holdK { y.Kernel with Gates := y.Kernel.Gates.set g r.1 } c else { y.Kernel with Gates := y.Kernel.Gates.set g r.1 }) r.2.1, Cores := if r.2.2.1 = true then y.Cores.set k coreNew else y.Cores, Mem := y.Mem.set 0 0, Events := y.Events ++ [⟨c.Process, a, (g : Int)⟩] }
  else faultM y c.Process 3
def readM (y : DMachine) (k : Nat) (c : DCore) (v : Int) (r : List Int) : DMachine := { y with Input := r, Cores := y.Cores.set k ⟨c.Regs.set 0 v, c.Pc, c.Process⟩, Events := y.Events ++ [⟨c.Process, 6, v⟩] }
def sysM (y : DMachine) (k : Nat) (c : DCore) (a : Int) (n : Nat) : DMachine :=
  if a = 1 ∨ a = 2 then (if n < y.Kernel.Gates.length then gateM y k c a n (gateR (y.Kernel.Gates.getD n gate0) c.Process a ((n % 2 : Nat) : Int)) else faultM y c.Process 4)
  else if a = 3 ∨ a = 4 then (if n / 2 < y.Kernel.Gates.length then gateM y k c a (n / 2) (gateR (y.Kernel.Gates.getD (n / 2) gate0) c.Process a ((n % 2 : Nat) : Int)) else faultM y c.Process 4)
  else if a = 5 then tellM y c.Process 5 (c.Regs.getD 0 0)
  else if a = 6 then readM y k c (y.Input.headD 0) y.Input.tail
  else { y with Events := y.Events ++ [⟨c.Process, 7, 0⟩], Kernel := { y.Kernel with Over := y.Kernel.Over.set c.Process.toNat true }, Cores := y.Cores.set k coreNew }
def coreM (x : DMachine) (k : Nat) (c c' : DCore) (m : List Int) (code : Int) : DMachine :=
  if code = 0 then { x with Cores := x.Cores.set k c', Mem := m } else if code = 10 then sysM { x with Cores := x.Cores.set k c', Mem := m } k c' (dA (x.Image.Text.getD c.Pc.toNat 0)) (dC (x.Image.Text.getD c.Pc.toNat 0)).toNat else faultM { x with Cores := x.Cores.set k c', Mem := m } c'.Process code
def stepM (x : DMachine) (i : Int) : DMachine × Bool :=
  if x.Stopped = true ∨ ¬ (0 ≤ i ∧ i ≤ (x.Cores.length : Int) - 1) then (x, false)
  else if (x.Cores.getD i.toNat coreNew).Process < 0 then
    (if (pickK x.Kernel).2.2 = true then ({ x with Kernel := (pickK x.Kernel).1, Cores := x.Cores.set i.toNat (pickK x.Kernel).2.1 }, true) else (x, false))
  else (coreM x i.toNat (x.Cores.getD i.toNat coreNew) (stepF (x.Cores.getD i.toNat coreNew) x.Image.Text x.Mem).1 (stepF (x.Cores.getD i.toNat coreNew) x.Image.Text x.Mem).2.1 (stepF (x.Cores.getD i.toNat coreNew) x.Image.Text x.Mem).2.2, true)
theorem stepF_proc {c : DCore} {t m : List Int} : (stepF c t m).1.Process = c.Process := by
  unfold stepF stepG
  dsimp only
  repeat' split
  all_goals rfl
theorem calcF_le {op a b : Int} : (calcF op a b).2 ≤ 2 := by
  unfold calcF; repeat' split
  all_goals simp
theorem negF_le {a : Int} : (negF a).2 ≤ 2 := by
  unfold negF; split
  all_goals simp
theorem stepG_code {x : DCore} {m : List Int} {op : Int} {a b c : Nat} (h : (stepG x m op a b c).2.2 = 10) : op = 10 := by
  by_cases h10 : op = 10
  · exact h10
  · exfalso
    unfold stepG at h
    dsimp only at h
    rw [if_neg h10] at h
    have hr : (if op = 1 then ((c : Int), (0 : Int)) else if op = 4 then calcF c (x.Regs.getD a 0) (x.Regs.getD b 0) else if op = 5 then (bitF (decide (x.Regs.getD a 0 = 0)), 0) else negF (x.Regs.getD a 0)).2 ≤ 2 := by
      repeat' split
      · simp
      · exact calcF_le
      · simp
      · exact negF_le
    generalize (if op = 1 then ((c : Int), (0 : Int)) else if op = 4 then calcF c (x.Regs.getD a 0) (x.Regs.getD b 0) else if op = 5 then (bitF (decide (x.Regs.getD a 0 = 0)), 0) else negF (x.Regs.getD a 0)) = r at *
    repeat' split at h
    all_goals first | (dsimp only at h; omega) | (simp at h)
theorem stepF_sys {c : DCore} {t m : List Int} (h : (stepF c t m).2.2 = 10) : ∃ p n : Nat, c.Pc = (p : Int) ∧ p < t.length ∧ decOk (t.getD p 0) = true ∧ dOp (t.getD p 0) = 10 ∧ (1 ≤ dA (t.getD p 0) ∧ dA (t.getD p 0) ≤ 7) ∧ dB (t.getD p 0) = 0 ∧ dC (t.getD p 0) = (n : Int) ∧ n ≤ 4194303 ∧ (stepF c t m).2.1 = m ∧ (stepF c t m).1.Regs = c.Regs ∧ c.Regs.length = 8 ∧ c.Process ≤ 3 := by
  by_cases hc : coreOkF c = true ∧ (0 ≤ c.Pc ∧ c.Pc ≤ (t.length : Int) - 1) ∧ decOk (t.getD c.Pc.toNat 0) = true
  · have e : stepF c t m = stepG c m (dOp (t.getD c.Pc.toNat 0)) (dA (t.getD c.Pc.toNat 0)).toNat (dB (t.getD c.Pc.toNat 0)).toNat (dC (t.getD c.Pc.toNat 0)).toNat := by unfold stepF; rw [if_pos hc]
    rw [e] at h ⊢
    have hop := stepG_code h
    obtain ⟨hok, hr, hd⟩ := hc
    obtain ⟨p, hp⟩ : ∃ p : Nat, c.Pc = (p : Int) := ⟨c.Pc.toNat, by omega⟩
    have h8 := coreOk_len hok
    have hd2 := hd
    simp only [decOk, insOk, Bool.and_eq_true, decide_eq_true_eq, hop] at hd2
    rw [hop]
    have hpw : t.getD p 0 = t.getD c.Pc.toNat 0 := by rw [hp, Int.toNat_natCast]
    refine ⟨p, (dC (t.getD c.Pc.toNat 0)).toNat, hp, by omega, ?_⟩
    rw [hpw]
    refine ⟨hd, hop, by omega, by omega, by omega, by omega, rfl, rfl, h8.1, ?_⟩
    simp only [coreOkF, Bool.and_eq_true, decide_eq_true_eq] at hok
    exact hok.2.2.2.2
  · unfold stepF at h; rw [if_neg hc] at h; exact absurd h (by simp)
theorem stepF_rlen {c : DCore} {t m : List Int} : (stepF c t m).1.Regs.length = c.Regs.length := stepF_regs
theorem stepF_mlen {c : DCore} {t m : List Int} : (stepF c t m).2.1.length = m.length := stepF_mem
def anyI (k y : Int) (x : DIns) : DIns := if k = 0 then ⟨Int.tmod y 12, x.A, x.B, x.C⟩ else if k = 1 then ⟨x.Op, IntKind.wrap .i64 (Int.tmod y 10 - 1), x.B, x.C⟩ else if k = 2 then ⟨x.Op, x.A, Int.tmod y 10, x.C⟩ else if k = 3 then ⟨x.Op, x.A, x.B, [-1, 0, 4194303, 4194304, 1000001].getD (Int.tmod y 5).toNat 0⟩ else x
def anyF (c : Cur) : DIns × Cur := (anyI (belowF 10 c).1 (belowF 60 (belowF 10 c).2).1 (l14F (belowF 60 (belowF 10 c).2).2).1, (l14F (belowF 60 (belowF 10 c).2).2).2)
theorem fsem_spec_l14Any (c : Cur) (hb : c.b.length ≤ 1048576) : H_spec_l14Any [.ptr ⟨0, none, 0⟩ 3 0 0] [some ⟨true, 0, 3, [[.tree 1 (c.b.map cY), .int .i64 (c.i : Int), .int .i64 c.h]]⟩] = some (.agg [.int .i64 (anyF c).1.Op, .int .i64 (anyF c).1.A, .int .i64 (anyF c).1.B, .int .i64 (anyF c).1.C], [some ⟨true, 0, 3, [[.tree 1 ((anyF c).2.b.map cY), .int .i64 ((anyF c).2.i : Int), .int .i64 (anyF c).2.h]]⟩]) := by
  have b1 : (belowF 10 c).2.b.length ≤ 1048576 := by rw [belowF_b]; exact hb
  have b2 : (belowF 60 (belowF 10 c).2).2.b.length ≤ 1048576 := by rw [belowF_b]; exact b1
  have d2 := @belowF_bd 60 (belowF 10 c).2 (by decide)
  have e1 := fsem_spec_l01Below c 10 hb
  have e2 := fsem_spec_l01Below (belowF 10 c).2 60 b1
  have e3 := fsem_spec_l14Ins (belowF 60 (belowF 10 c).2).2 b2
  unfold anyF anyI
  generalize (belowF 60 (belowF 10 c).2).1 = y at *
  have hj : Int.tmod y 5 = 0 ∨ Int.tmod y 5 = 1 ∨ Int.tmod y 5 = 2 ∨ Int.tmod y 5 = 3 ∨ Int.tmod y 5 = 4 := by
    obtain ⟨n, rfl⟩ : ∃ n : Nat, y = (n : Int) := ⟨y.toNat, by omega⟩
    rw [show Int.tmod (n : Int) 5 = ((n % 5 : Nat) : Int) from rfl]
    omega
  have hk : (belowF 10 c).1 = 0 ∨ (belowF 10 c).1 = 1 ∨ (belowF 10 c).1 = 2 ∨ (belowF 10 c).1 = 3 ∨ (((belowF 10 c).1 = 0) = False ∧ ((belowF 10 c).1 = 1) = False ∧ ((belowF 10 c).1 = 2) = False ∧ ((belowF 10 c).1 = 3) = False) := by
    by_cases h0 : (belowF 10 c).1 = 0
    · exact .inl h0
    by_cases h1 : (belowF 10 c).1 = 1
    · exact .inr (.inl h1)
    by_cases h2 : (belowF 10 c).1 = 2
    · exact .inr (.inr (.inl h2))
    by_cases h3 : (belowF 10 c).1 = 3
    · exact .inr (.inr (.inr (.inl h3)))
    exact .inr (.inr (.inr (.inr ⟨eq_false h0, eq_false h1, eq_false h2, eq_false h3⟩)))
  rw [sh_spec_l14Any, run_goF]
  rcases hk with hk | hk | hk | hk | ⟨k0, k1, k2, k3⟩
  · simp (maxSteps := 10000000) (disch := first | assumption | omega) only [F_spec_l14Any, params, EG, EL, simprocAttr, FB, ED, EF, FT, cx_spec_l14Any, cl_spec_l01Below, e1, e2, cl_spec_l14Ins, e3, hk, if_true, if_false]
  · simp (maxSteps := 10000000) (disch := first | assumption | omega) only [F_spec_l14Any, params, EG, EL, simprocAttr, FB, ED, EF, FT, cx_spec_l14Any, cl_spec_l01Below, e1, e2, cl_spec_l14Ins, e3, hk, if_true, if_false]
  · simp (maxSteps := 10000000) (disch := first | assumption | omega) only [F_spec_l14Any, params, EG, EL, simprocAttr, FB, ED, EF, FT, cx_spec_l14Any, cl_spec_l01Below, e1, e2, cl_spec_l14Ins, e3, hk, if_true, if_false]
  · rcases hj with hj | hj | hj | hj | hj
    all_goals simp (maxSteps := 10000000) (disch := first | assumption | omega) only [F_spec_l14Any, params, EG, EL, simprocAttr, FB, ED, EF, FT, cx_spec_l14Any, cl_spec_l01Below, e1, e2, cl_spec_l14Ins, e3, hk, hj, if_true, if_false, List.getD_cons_zero, List.getD_cons_succ]
  · simp (maxSteps := 10000000) (disch := first | assumption | omega) only [F_spec_l14Any, params, EG, EL, simprocAttr, FB, ED, EF, FT, cx_spec_l14Any, cl_spec_l01Below, e1, e2, cl_spec_l14Ins, e3, k0, k1, k2, k3, if_true, if_false]
theorem and_mask (v : Int) (n : Nat) (h0 : 0 ≤ v) (h1 : v < 4611686018427387904) (hn : n ≤ 40) : IntKind.wrap .i64 (((BitVec.ofInt 64 v &&& BitVec.ofInt 64 ((2 ^ n - 1 : Nat) : Int)).toNat : Nat) : Int) = v % ((2 ^ n : Nat) : Int) := by
  obtain ⟨k, rfl⟩ : ∃ k : Nat, v = (k : Int) := ⟨v.toNat, by omega⟩
  have hp : 2 ^ n ≤ 2 ^ 40 := Nat.pow_le_pow_right (by omega) hn
  have hp0 : 0 < 2 ^ n := Nat.pow_pos (by omega)
  rw [BitVec.ofInt_natCast, BitVec.ofInt_natCast, BitVec.toNat_and, BitVec.toNat_ofNat, BitVec.toNat_ofNat, Nat.mod_eq_of_lt (by omega), Nat.mod_eq_of_lt (by omega), Nat.and_two_pow_sub_one_eq_mod]
  have hm : k % 2 ^ n < 2 ^ n := Nat.mod_lt _ hp0
  rw [wrapI (by omega) (by omega)]
  simp
theorem dec_arith {w : Int} (h0 : 0 ≤ w) (h1 : w < 4611686018427387904) : dOp w = w / 268435456 ∧ dA w = (w / 33554432) % 8 ∧ dB w = (w / 4194304) % 8 ∧ dC w = w % 4194304 := by
  have f : ∀ d : Int, 0 < d → w.fdiv d = w / d := fun d hd => Int.fdiv_eq_ediv_of_nonneg _ (by omega)
  refine ⟨?_, ?_, ?_, ?_⟩
  · unfold dOp; rw [f _ (by decide)]; rfl
  · have := and_mask (w / 33554432) 3 (by omega) (by omega) (by omega)
    unfold dA s25
    rw [f _ (by decide)]
    exact this
  · have := and_mask (w / 4194304) 3 (by omega) (by omega) (by omega)
    unfold dB s22
    rw [f _ (by decide)]
    exact this
  · have := and_mask w 22 h0 h1 (by omega)
    unfold dC
    exact this
theorem dec_enc {op a b c : Int} (h : insOk op a b c = true) : decOk (encN op a b c) = true ∧ dOp (encN op a b c) = op ∧ dA (encN op a b c) = a ∧ dB (encN op a b c) = b ∧ dC (encN op a b c) = c := by
  have hb := h
  simp only [insOk, decide_eq_true_eq] at hb
  have hw0 : 0 ≤ encN op a b c := by unfold encN; omega
  have hw1 : encN op a b c < 4611686018427387904 := by unfold encN; omega
  obtain ⟨e1, e2, e3, e4⟩ := dec_arith hw0 hw1
  have f1 : dOp (encN op a b c) = op := by rw [e1]; unfold encN; omega
  have f2 : dA (encN op a b c) = a := by rw [e2]; unfold encN; omega
  have f3 : dB (encN op a b c) = b := by rw [e3]; unfold encN; omega
  have f4 : dC (encN op a b c) = c := by rw [e4]; unfold encN; omega
  refine ⟨?_, f1, f2, f3, f4⟩
  unfold decOk
  rw [f1, f2, f3, f4, h, decide_eq_true hw0]; rfl
theorem enc_dec {w : Int} (h : decOk w = true) : encF (dOp w) (dA w) (dB w) (dC w) = w := by
  unfold decOk at h
  rw [Bool.and_eq_true, decide_eq_true_eq] at h
  obtain ⟨h0, hi⟩ := h
  have hb := hi
  simp only [insOk, decide_eq_true_eq] at hb
  have hf : dOp w = w / 268435456 := by
    unfold dOp; rw [Int.fdiv_eq_ediv_of_nonneg _ (by decide)]; rfl
  have h1 : w < 4611686018427387904 := by omega
  obtain ⟨e1, e2, e3, e4⟩ := dec_arith h0 h1
  unfold encF
  rw [if_pos hi]
  unfold encN
  rw [e1, e2, e3, e4]
  omega
theorem encN_inj {a b c d a' b' c' d' : Int} (h : insOk a b c d = true) (h' : insOk a' b' c' d' = true) (e : encN a b c d = encN a' b' c' d') : a = a' ∧ b = b' ∧ c = c' ∧ d = d' := by
  have h1 := dec_enc h
  have h2 := dec_enc h'
  rw [e] at h1
  exact ⟨h1.2.1.symm.trans h2.2.1, h1.2.2.1.symm.trans h2.2.2.1, h1.2.2.2.1.symm.trans h2.2.2.2.1, h1.2.2.2.2.symm.trans h2.2.2.2.2⟩
theorem encN_pos {a b c d : Int} (h : insOk a b c d = true) : 0 < encN a b c d := by
  simp only [insOk, decide_eq_true_eq] at h
  unfold encN; omega
/-- unlike words are not encoded alike -/
theorem enc_ne {a b c d a' b' c' d' : Int} (h : insOk a b c d = true) (hne : ¬ (a' = a ∧ b' = b ∧ c' = c ∧ d' = d)) : encF a' b' c' d' ≠ encF a b c d := by
  intro e
  unfold encF at e
  rw [if_pos h] at e
  by_cases h' : insOk a' b' c' d' = true
  · rw [if_pos h'] at e; exact hne (encN_inj h' h e)
  · rw [if_neg h'] at e; have := encN_pos h; omega
theorem decR_ok {op a b c : Int} (h : insOk op a b c = true) : decR (encF op a b c) = .tup [.agg [.int .i64 op, .int .i64 a, .int .i64 b, .int .i64 c], .bool true] := by
  obtain ⟨h1, h2, h3, h4, h5⟩ := dec_enc h
  unfold decR encF
  rw [if_pos h, if_pos h1, h2, h3, h4, h5]
theorem decR_zero : decR 0 = .tup [.agg [.int .i64 0, .int .i64 0, .int .i64 0, .int .i64 0], .bool false] := rfl
theorem eqf4 {a b c d a' b' c' d' : Int} : eqf [.int .i64 a, .int .i64 b, .int .i64 c, .int .i64 d] [.int .i64 a', .int .i64 b', .int .i64 c', .int .i64 d'] [(0, 1), (1, 1), (2, 1), (3, 1)] = some (decide (a = a' ∧ b = b' ∧ c = c' ∧ d = d')) := by
  by_cases h1 : a = a' <;> by_cases h2 : b = b' <;> by_cases h3 : c = c' <;> by_cases h4 : d = d' <;> simp [eqf, eqc, h1, h2, h3, h4]
def asmC (all : List DLine) (x : DLine) : Int := if x.Target = ⟨#[]⟩ then x.Ins.C else if fIx (isLab x.Target) all 0 < 0 then -1 else cnt isIns (all.take (fIx (isLab x.Target) all 0).toNat)
def asmL (all : List DLine) : List DLine → Option (List Int)
  | [] => some []
  | x :: xs => if x.Ins.Op = 0 then asmL all xs else if insOk x.Ins.Op x.Ins.A x.Ins.B (asmC all x) = true then (asmL all xs).map (encN x.Ins.Op x.Ins.A x.Ins.B (asmC all x) :: ·) else none
def asmO : Option (List Int) → List Int × Bool
  | some l => (l, true)
  | none => ([], false)
def asmV (xs : List DLine) : List Int × Bool := if (linesB xs xs 0 && decide (xs.length ≤ 900)) = true then asmO (asmL xs xs) else ([], false)
def asmE (k t : Nat) (acc : List Int) : Option (List Int) → Option (Ex × St)
  | some l => some (.exit k, ⟨[(t, .sl ⟨0, none, 0⟩ 1 0 (acc ++ l).length)], [some ⟨false, 0, 1, (acc ++ l).map cI⟩]⟩)
  | none => some (.ret, ⟨[(2, .sl ⟨0, none, 0⟩ 1 0 0), (3, .bool false)], [some ⟨false, 0, 1, []⟩]⟩)
theorem asmE_cons {k t : Nat} {acc : List Int} {v : Int} {r : Option (List Int)} : asmE k t (acc ++ [v]) r = asmE k t acc (r.map (v :: ·)) := by
  cases r <;> simp [asmE]
theorem asmL_len (all : List DLine) : ∀ (xs : List DLine) (l : List Int), asmL all xs = some l → l.length ≤ xs.length
  | [], l, h => by simp [asmL] at h; simp [h]
  | x :: xs, l, h => by
    simp only [asmL] at h
    split at h
    · have := asmL_len all xs l h; simp; omega
    · split at h
      · simp only [Option.map_eq_some_iff] at h
        obtain ⟨l', h1, rfl⟩ := h
        have := asmL_len all xs l' h1
        simp; omega
      · simp at h
theorem asmV_len (xs : List DLine) : (asmV xs).1.length ≤ xs.length := by
  unfold asmV asmO
  split
  · split
    · rename_i l h; exact asmL_len xs xs l h
    · simp
  · simp
theorem encF_of {op a b c : Int} (h : insOk op a b c = true) : encF op a b c = encN op a b c := by unfold encF; rw [if_pos h]
theorem asm_snoc {a : List Int} {v : Int} : a.map cI ++ [[.int .i64 v]] = (a ++ [v]).map cI := by simp [cI]
theorem asm_len1 {a : List Int} {v : Int} : (a ++ [v]).length = a.length + 1 := by simp
theorem sem_spec_Assemble (xs : List DLine) (hl : xs.length ≤ 1048576) : S_spec_Assemble.sem [.tree 6 (xs.map cLine)] = some (.tup [.tree 1 ((asmV xs).1.map cI), .bool (asmV xs).2], []) := by
  have loop : loopV X_spec_Assemble 0 [0, 4, 5] [(1, [4]), (0, [2, 3])] B0_spec_Assemble ⟨[(0, .tree 6 (xs.map cLine)), (4, .sl ⟨0, none, 0⟩ 1 0 0), (5, .int .i64 0)], [some ⟨false, 0, 1, []⟩]⟩ = asmE 0 4 [] (asmL xs xs) := by
    refine loop_list xs (fun i a => a.length ≤ i) (fun i (a : List Int) => ⟨[(0, .tree 6 (xs.map cLine)), (4, .sl ⟨0, none, 0⟩ 1 0 a.length), (5, .int .i64 (i : Int))], [some ⟨false, 0, 1, a.map cI⟩]⟩) (fun rest a => asmE 0 4 a (asmL xs rest)) ?_ ?_ [] (Nat.le_refl _)
    · intro a ha
      rw [loopV_by B0_spec_Assemble.eq_1]
      simp only [EG, EL, simprocAttr, FB, int_lt_irrefl, asmL, asmE]
    · rintro i h x rest a rfl rfl ha ih
      have hi : (i : Int) < (xs.length : Int) := by omega
      have hb : (a.length + 1) * 8 ≤ 70368744177664 := by omega
      have hp : xs.length ≤ 140737488351232 := by omega
      have ih1 : ∀ v, (a ++ [v]).length ≤ i + 1 := fun v => by rw [asm_len1]; omega
      rw [loopV_by B0_spec_Assemble.eq_1]
      by_cases h1 : xs[i].Ins.Op = 0
      · simp (disch := first | assumption | omega) only [EG, EL, simprocAttr, FB, hi, wrap_succ, getRow _ _ h, asmL, h1]
        exact ih _ (by omega)
      · have fin : ∀ c : Int, insOk xs[i].Ins.Op xs[i].Ins.A xs[i].Ins.B c = true → (if (a.length + 1) * 8 ≤ 70368744177664 then loopV X_spec_Assemble 0 [0, 4, 5] [(1, [4]), (0, [2, 3])] B0_spec_Assemble ⟨[(0, .tree 6 (xs.map cLine)), (4, .sl ⟨0, none, 0⟩ 1 0 (a.length + 1)), (5, .int .i64 ((i + 1 : Nat) : Int))], [some ⟨false, 0, 1, a.map cI ++ [[.int .i64 (encF xs[i].Ins.Op xs[i].Ins.A xs[i].Ins.B c)]]⟩]⟩ else none) = asmE 0 4 a ((asmL xs (xs.drop (i + 1))).map (encN xs[i].Ins.Op xs[i].Ins.A xs[i].Ins.B c :: ·)) := fun c h3 => by
          rw [if_pos hb, ← asmE_cons, ← ih _ (ih1 _), encF_of h3, asm_snoc, asm_len1]
        by_cases h2 : xs[i].Target = ⟨#[]⟩
        · cases h3 : insOk xs[i].Ins.Op xs[i].Ins.A xs[i].Ins.B xs[i].Ins.C
          · simp (disch := first | assumption | omega) only [EG, EL, simprocAttr, FB, FT, hi, wrap_succ, getRow _ _ h, asmL, h1, asmC, h2, cx_spec_Assemble, cl_spec_Encode, sem_spec_Encode, h3]
            rfl
          · simp (disch := first | assumption | omega) only [EG, EL, simprocAttr, FB, FT, hi, wrap_succ, getRow _ _ h, asmL, h1, asmC, h2, cx_spec_Assemble, cl_spec_Encode, sem_spec_Encode, h3]
            exact fin _ h3
        · obtain ⟨c, hc⟩ : ∃ c : Int, c = (if fIx (isLab xs[i].Target) xs 0 < 0 then -1 else (cnt isIns (xs.take (fIx (isLab xs[i].Target) xs 0).toNat) : Int)) := ⟨_, rfl⟩
          have hP := sem_spec_PlaceOf xs xs[i].Target hp
          rw [← hc] at hP
          cases h3 : insOk xs[i].Ins.Op xs[i].Ins.A xs[i].Ins.B c
          · simp (disch := first | assumption | omega) only [EG, EL, simprocAttr, FB, FT, hi, wrap_succ, getRow _ _ h, asmL, h1, asmC, h2, ← hc, cx_spec_Assemble, cl_spec_PlaceOf, hP, cl_spec_Encode, sem_spec_Encode, h3]
            rfl
          · simp (disch := first | assumption | omega) only [EG, EL, simprocAttr, FB, FT, hi, wrap_succ, getRow _ _ h, asmL, h1, asmC, h2, ← hc, cx_spec_Assemble, cl_spec_PlaceOf, hP, cl_spec_Encode, sem_spec_Encode, h3]
            exact fin _ h3
  rw [sg_spec_Assemble, sem_go]
  unfold asmV
  cases hb : (linesB xs xs 0 && decide (xs.length ≤ 900))
  · simp (disch := first | assumption | omega) only [F_spec_Assemble, params, EG, EL, simprocAttr, FB, FT, cx_spec_Assemble, cl_spec_LinesOk, sem_spec_LinesOk, hb]
  · cases hr : asmL xs xs with
    | none =>
      rw [hr] at loop
      simp (disch := first | assumption | omega) only [F_spec_Assemble, params, EG, EL, simprocAttr, FB, FT, cx_spec_Assemble, cl_spec_LinesOk, sem_spec_LinesOk, hb, loop, asmE, asmO]
    | some l =>
      rw [hr] at loop
      simp (disch := first | assumption | omega) only [F_spec_Assemble, params, EG, EL, simprocAttr, FB, FT, cx_spec_Assemble, cl_spec_LinesOk, sem_spec_LinesOk, hb, loop, asmE, asmO]
def asmM : List DLine → List (ByteArray × Int) → Nat → List (ByteArray × Int)
  | [], m, _ => m
  | x :: xs, m, n => if x.Ins.Op = 0 then asmM xs (mput m x.Label n) n else asmM xs m (n + 1)
def asmG (l : ByteArray) : List DLine → Nat → Option Int → Option Int
  | [], _, r => r
  | x :: xs, n, r => if x.Ins.Op = 0 then asmG l xs n (if x.Label = l then some (n : Int) else r) else asmG l xs (n + 1) r
theorem mget_mput (k l : ByteArray) (v : Int) : ∀ m : List (ByteArray × Int), mget (mput m k v) l = if k = l then some v else mget m l
  | [] => by simp [mput, mget]
  | p :: m => by
    by_cases h : p.1 = k
    · simp only [mput, h, if_true, mget]
      by_cases h2 : k = l <;> simp [h2]
    · have ih := mget_mput k l v m
      simp only [mput, h, if_false, mget, ih]
      by_cases h2 : k = l
      · subst h2; simp [h]
      · simp [h2]
theorem mget_asmM (l : ByteArray) : ∀ (xs : List DLine) (m : List (ByteArray × Int)) (n : Nat), mget (asmM xs m n) l = asmG l xs n (mget m l)
  | [], _, _ => rfl
  | x :: xs, m, n => by
    simp only [asmM, asmG]
    split
    · rw [mget_asmM l xs, mget_mput]
    · rw [mget_asmM l xs]
theorem asmG_skip (l : ByteArray) : ∀ (xs : List DLine) (n : Nat) (r : Option Int), (∀ j (h : j < xs.length), isLab l xs[j] = false) → asmG l xs n r = r
  | [], _, _, _ => rfl
  | x :: xs, n, r, h => by
    have h0 := h 0 (by simp)
    simp only [List.getElem_cons_zero] at h0
    have ht := fun n r => asmG_skip l xs n r fun j hj => by have := h (j + 1) (by simp; omega); simpa using this
    simp only [asmG]
    split
    · rename_i e
      have : x.Label ≠ l := fun e2 => by simp [isLab, e, e2] at h0
      rw [if_neg this]; exact ht _ _
    · exact ht _ _
theorem asmG_at (l : ByteArray) : ∀ (xs : List DLine) (k n : Nat) (r : Option Int), (∀ j (h : j < xs.length), isLab l xs[j] = true → fIx (isLab l) xs k = ((k + j : Nat) : Int)) → 0 ≤ fIx (isLab l) xs k → asmG l xs n r = some ((n + cnt isIns (xs.take (fIx (isLab l) xs k - k).toNat) : Nat) : Int)
  | [], k, n, r, _, h => by simp [fIx] at h
  | x :: xs, k, n, r, hu, h => by
    by_cases hx : isLab l x = true
    · have hop : x.Ins.Op = 0 ∧ x.Label = l := by simpa [isLab] using hx
      have hf : fIx (isLab l) (x :: xs) k = k := by simp [fIx, hx]
      simp only [asmG, hop, if_true]
      rw [asmG_skip]
      · rw [hf]; simp [cnt]
      · intro j hj
        cases e : isLab l xs[j] with
        | false => rfl
        | true =>
          have := hu (j + 1) (by simp; omega) (by simpa using e)
          rw [hf] at this
          omega
    · have hf : fIx (isLab l) (x :: xs) k = fIx (isLab l) xs (k + 1) := by simp [fIx, hx]
      rw [hf] at h ⊢
      have hu' : ∀ j (h : j < xs.length), isLab l xs[j] = true → fIx (isLab l) xs (k + 1) = ((k + 1 + j : Nat) : Int) := fun j hj e => by
        have := hu (j + 1) (by simp; omega) (by simpa using e)
        rw [hf] at this
        rw [this]; congr 1; omega
      have hge : ((k + 1 : Nat) : Int) ≤ fIx (isLab l) xs (k + 1) := by
        rcases @fIx_ge _ (isLab l) xs (k + 1) with h1 | h1 <;> omega
      have htake : (fIx (isLab l) xs (k + 1) - (k : Int)).toNat = (fIx (isLab l) xs (k + 1) - ((k + 1 : Nat) : Int)).toNat + 1 := by omega
      rw [htake, List.take_succ_cons]
      simp only [asmG, cnt]
      split
      · rename_i e
        have : x.Label ≠ l := fun e2 => hx (by simp [isLab, e, e2])
        rw [if_neg this, asmG_at l xs (k + 1) n r hu' h]
        simp [isIns, e]
      · rename_i e
        rw [asmG_at l xs (k + 1) (n + 1) r hu' h]
        simp only [isIns, e, decide_false, Bool.not_false, if_true]
        congr 2
        omega
theorem linesB_get {all : List DLine} : ∀ {xs : List DLine} {k : Nat}, linesB all xs k = true → ∀ j (h : j < xs.length), lineOk all (k + j) xs[j] = true
  | [], _, _, j, h => by simp at h
  | x :: xs, k, hb, j, h => by
    simp only [linesB, Bool.and_eq_true] at hb
    cases j with
    | zero => exact hb.1
    | succ j =>
      have := linesB_get hb.2 j (by simpa using h)
      simp only [List.getElem_cons_succ]
      rw [show k + (j + 1) = k + 1 + j by omega]
      exact this
theorem asm_get {xs : List DLine} (hb : linesB xs xs 0 = true) {i : Nat} (hi : i < xs.length) (ho : xs[i].Ins.Op ≠ 0) (ht : xs[i].Target ≠ ⟨#[]⟩) : mget (asmM xs [] 0) xs[i].Target = some (if fIx (isLab xs[i].Target) xs 0 < 0 then -1 else (cnt isIns (xs.take (fIx (isLab xs[i].Target) xs 0).toNat) : Int)) := by
  have h0 := linesB_get hb i hi
  simp only [lineOk, ho, if_false, ht, decide_false, Bool.false_or, Bool.and_eq_true, Bool.not_eq_true', decide_eq_false_iff_not] at h0
  have h1 := h0.2.2
  have h2 : 0 ≤ fIx (isLab xs[i].Target) xs 0 := by omega
  rw [mget_asmM, if_neg h1, asmG_at _ xs 0 0 _ ?_ h2]
  · simp
  · intro j hj e
    have h3 := linesB_get hb j hj
    have h4 : xs[j].Ins.Op = 0 ∧ xs[j].Label = xs[i].Target := by simpa [isLab] using e
    simp only [lineOk, h4.1, if_true, Bool.and_eq_true, decide_eq_true_eq] at h3
    have h5 := h3.2.2.2
    rw [h4.2] at h5
    simpa using h5
theorem sem_impl_Assemble (xs : List DLine) (hl : xs.length ≤ 1048576) : S_impl_Assemble.sem [.tree 6 (xs.map cLine)] = some (.tup [.tree 1 ((asmV xs).1.map cI), .bool (asmV xs).2], []) := by
  have loop0 : loopV Y_impl_Assemble 0 [0, 4, 5, 18, 19, 20, 68] [(1, [0, 4, 68])] B0_impl_Assemble ⟨[(0, .tree 6 (xs.map cLine)), (4, .bool true), (5, .int .i64 0), (18, .tree 6 (xs.map cLine)), (19, .int .i64 xs.length), (20, .int .i64 0), (68, .tree 2 [])], []⟩ = some (.exit 0, ⟨[(0, .tree 6 (xs.map cLine)), (4, .bool true), (68, .tree 2 ((asmM xs [] 0).map cM))], []⟩) := by
    refine loop_list xs (fun i a => a.2 ≤ i) (fun i (a : List (ByteArray × Int) × Nat) => ⟨[(0, .tree 6 (xs.map cLine)), (4, .bool true), (5, .int .i64 (a.2 : Int)), (18, .tree 6 (xs.map cLine)), (19, .int .i64 xs.length), (20, .int .i64 (i : Int)), (68, .tree 2 (a.1.map cM))], []⟩) (fun rest a => some (.exit 0, ⟨[(0, .tree 6 (xs.map cLine)), (4, .bool true), (68, .tree 2 ((asmM rest a.1 a.2).map cM))], []⟩)) ?_ ?_ ([], 0) (Nat.le_refl _)
    · intro a ha
      rw [loopV_by B0_impl_Assemble.eq_1]
      simp only [EG, EL, simprocAttr, FB, int_lt_irrefl, asmM]
    · rintro i h x rest a rfl rfl ha ih
      have hi : (i : Int) < (xs.length : Int) := by omega
      have hp : a.2 ≤ 1048576 := by omega
      rw [loopV_by B0_impl_Assemble.eq_1]
      by_cases h1 : xs[i].Ins.Op = 0
      · simp (disch := first | assumption | omega) only [EG, EL, simprocAttr, FB, FT, hi, wrap_succ, getRow _ _ h, asmM, h1, cx_impl_Assemble, cl_mapPut, putG_eq]
        exact ih (mput a.1 xs[i].Label a.2, a.2) (by simp only []; omega)
      · simp (disch := first | assumption | omega) only [EG, EL, simprocAttr, FB, FT, hi, wrap_succ, getRow _ _ h, asmM, h1, cx_impl_Assemble]
        exact ih (a.1, a.2 + 1) (by simp only []; omega)
  have loop1 : linesB xs xs 0 = true → loopV Y_impl_Assemble 0 [4, 8, 35, 36, 37, 68] [(3, [8]), (0, [2, 3])] B1_impl_Assemble ⟨[(4, .bool true), (8, .sl ⟨0, none, 0⟩ 1 0 0), (35, .tree 6 (xs.map cLine)), (36, .int .i64 xs.length), (37, .int .i64 0), (68, .tree 2 ((asmM xs [] 0).map cM))], [some ⟨false, 0, 1, []⟩]⟩ = asmE 2 8 [] (asmL xs xs) := by
    intro hB
    refine loop_list xs (fun i a => a.length ≤ i) (fun i (a : List Int) => ⟨[(4, .bool true), (8, .sl ⟨0, none, 0⟩ 1 0 a.length), (35, .tree 6 (xs.map cLine)), (36, .int .i64 xs.length), (37, .int .i64 (i : Int)), (68, .tree 2 ((asmM xs [] 0).map cM))], [some ⟨false, 0, 1, a.map cI⟩]⟩) (fun rest a => asmE 2 8 a (asmL xs rest)) ?_ ?_ [] (Nat.le_refl _)
    · intro a ha
      rw [loopV_by B1_impl_Assemble.eq_1]
      simp only [EG, EL, simprocAttr, FB, int_lt_irrefl, asmL, asmE]
    · rintro i h x rest a rfl rfl ha ih
      have hi : (i : Int) < (xs.length : Int) := by omega
      have hb : (a.length + 1) * 8 ≤ 70368744177664 := by omega
      have ih1 : ∀ v, (a ++ [v]).length ≤ i + 1 := fun v => by rw [asm_len1]; omega
      rw [loopV_by B1_impl_Assemble.eq_1]
      by_cases h1 : xs[i].Ins.Op = 0
      · simp (disch := first | assumption | omega) only [EG, EL, simprocAttr, FB, FT, hi, wrap_succ, getRow _ _ h, asmL, h1, cx_impl_Assemble]
        exact ih _ (by omega)
      · have fin : ∀ c : Int, insOk xs[i].Ins.Op xs[i].Ins.A xs[i].Ins.B c = true → (if (a.length + 1) * 8 ≤ 70368744177664 then loopV Y_impl_Assemble 0 [4, 8, 35, 36, 37, 68] [(3, [8]), (0, [2, 3])] B1_impl_Assemble ⟨[(4, .bool true), (8, .sl ⟨0, none, 0⟩ 1 0 (a.length + 1)), (35, .tree 6 (xs.map cLine)), (36, .int .i64 xs.length), (37, .int .i64 ((i + 1 : Nat) : Int)), (68, .tree 2 ((asmM xs [] 0).map cM))], [some ⟨false, 0, 1, a.map cI ++ [[.int .i64 (encF xs[i].Ins.Op xs[i].Ins.A xs[i].Ins.B c)]]⟩]⟩ else none) = asmE 2 8 a ((asmL xs (xs.drop (i + 1))).map (encN xs[i].Ins.Op xs[i].Ins.A xs[i].Ins.B c :: ·)) := fun c h3 => by
          rw [if_pos hb, ← asmE_cons, ← ih _ (ih1 _), encF_of h3, asm_snoc, asm_len1]
        by_cases h2 : xs[i].Target = ⟨#[]⟩
        · cases h3 : insOk xs[i].Ins.Op xs[i].Ins.A xs[i].Ins.B xs[i].Ins.C
          · simp (disch := first | assumption | omega) only [EG, EL, simprocAttr, FB, FT, hi, wrap_succ, getRow _ _ h, asmL, h1, asmC, h2, cx_impl_Assemble, cl_impl_Encode, sem_impl_Encode, h3]
            rfl
          · simp (disch := first | assumption | omega) only [EG, EL, simprocAttr, FB, FT, hi, wrap_succ, getRow _ _ h, asmL, h1, asmC, h2, cx_impl_Assemble, cl_impl_Encode, sem_impl_Encode, h3]
            exact fin _ h3
        · have hG := asm_get hB h h1 h2
          obtain ⟨c, hc⟩ : ∃ c : Int, c = (if fIx (isLab xs[i].Target) xs 0 < 0 then -1 else (cnt isIns (xs.take (fIx (isLab xs[i].Target) xs 0).toNat) : Int)) := ⟨_, rfl⟩
          rw [← hc] at hG
          have hG2 : ∀ hp, getG [.tree 2 ((asmM xs [] 0).map cM), .bool true, .str xs[i].Target] hp = some (.int .i64 c, hp) := fun hp => getG_eq hG
          cases h3 : insOk xs[i].Ins.Op xs[i].Ins.A xs[i].Ins.B c
          · simp (disch := first | assumption | omega) only [EG, EL, simprocAttr, FB, FT, hi, wrap_succ, getRow _ _ h, asmL, h1, asmC, h2, ← hc, cx_impl_Assemble, cl_mapGet, hG2, cl_impl_Encode, sem_impl_Encode, h3]
            rfl
          · simp (disch := first | assumption | omega) only [EG, EL, simprocAttr, FB, FT, hi, wrap_succ, getRow _ _ h, asmL, h1, asmC, h2, ← hc, cx_impl_Assemble, cl_mapGet, hG2, cl_impl_Encode, sem_impl_Encode, h3]
            exact fin _ h3
  have hmk : ∀ hp, mkG [lk [] 4, lk [] 17, lk [] 28, lk [] 50, lk [] 68] hp = some (.tree 2 [], hp) := fun hp => rfl
  rw [sg_impl_Assemble, sem_go]
  unfold asmV
  cases hb : (linesB xs xs 0 && decide (xs.length ≤ 900))
  · simp (disch := first | assumption | omega) only [F_impl_Assemble, params, EG, EL, simprocAttr, FB, FT, cx_impl_Assemble, cl_impl_LinesOk, sem_impl_LinesOk, hb]
  · have hB : linesB xs xs 0 = true := by simp only [Bool.and_eq_true] at hb; exact hb.1
    have loop1 := loop1 hB
    cases hr : asmL xs xs with
    | none =>
      rw [hr] at loop1
      simp (disch := first | assumption | omega) only [F_impl_Assemble, params, EG, EL, simprocAttr, FB, FT, cx_impl_Assemble, cl_impl_LinesOk, sem_impl_LinesOk, hb, loop0, loop1, asmE, asmO, cl_mapMk, hmk]
    | some l =>
      rw [hr] at loop1
      simp (disch := first | assumption | omega) only [F_impl_Assemble, params, EG, EL, simprocAttr, FB, FT, cx_impl_Assemble, cl_impl_LinesOk, sem_impl_LinesOk, hb, loop0, loop1, asmE, asmO, cl_mapMk, hmk]
def labS (n : Int) : ByteArray := if n = 0 then ⟨#[97]⟩ else if n = 1 then ⟨#[98]⟩ else ⟨#[99]⟩
def lineL (u : Nat) : DLine := ⟨labS u, ⟨0, 0, 0, 0⟩, ⟨#[]⟩⟩
def lineI (x : DIns) : DLine := ⟨⟨#[]⟩, x, ⟨#[]⟩⟩
def lineJ (x : DIns) (t : Int) : DLine := ⟨⟨#[]⟩, ⟨x.Op, x.A, x.B, 0⟩, labS t⟩
def linR : List Unit → Nat → Nat → Cur → List DLine → List DLine × Cur
  | [], _, _, c, out => (out, (belowF 12 c).2)
  | _ :: n, i, u, c, out =>
    if (i : Int) < (belowF 12 c).1 then
      if (belowF 4 (belowF 12 c).2).1 = 0 ∧ u < 3 then linR n (i + 1) (u + 1) (belowF 4 (belowF 12 c).2).2 (out ++ [lineL u])
      else if ((l14F (belowF 4 (belowF 12 c).2).2).1.Op = 7 ∨ (l14F (belowF 4 (belowF 12 c).2).2).1.Op = 8) ∧ 0 < u then linR n (i + 1) u (belowF u (l14F (belowF 4 (belowF 12 c).2).2).2).2 (out ++ [lineJ (l14F (belowF 4 (belowF 12 c).2).2).1 (belowF u (l14F (belowF 4 (belowF 12 c).2).2).2).1])
      else linR n (i + 1) u (l14F (belowF 4 (belowF 12 c).2).2).2 (out ++ [lineI (l14F (belowF 4 (belowF 12 c).2).2).1])
    else (out, (belowF 12 c).2)
theorem linR_b : ∀ {n : List Unit} {i u : Nat} {c : Cur} {out : List DLine}, (linR n i u c out).2.b = c.b
  | [], _, _, c, _ => belowF_b
  | _ :: n, i, u, c, out => by
    simp only [linR]
    (repeat' split) <;> simp only [linR_b, belowF_b, l14F_b]
theorem linR_len : ∀ {n : List Unit} {i u : Nat} {c : Cur} {out : List DLine}, (linR n i u c out).1.length ≤ out.length + n.length
  | [], _, _, c, out => by simp [linR]
  | _ :: n, i, u, c, out => by
    have h := fun u c (l : DLine) => @linR_len n (i + 1) u c (out ++ [l])
    simp only [List.length_append, List.length_singleton] at h
    simp only [linR, List.length_cons]
    (repeat' split)
    · have := h (u + 1) (belowF 4 (belowF 12 c).2).2 (lineL u); omega
    · have := h u (belowF u (l14F (belowF 4 (belowF 12 c).2).2).2).2 (lineJ (l14F (belowF 4 (belowF 12 c).2).2).1 (belowF u (l14F (belowF 4 (belowF 12 c).2).2).2).1); omega
    · have := h u (l14F (belowF 4 (belowF 12 c).2).2).2 (lineI (l14F (belowF 4 (belowF 12 c).2).2).1); omega
    · simp only []; omega
def drawLines (c : Cur) : List DLine × Cur := linR (List.replicate 12 ()) 0 0 c []
theorem drawLines_b {c : Cur} : (drawLines c).2.b = c.b := linR_b
theorem drawLines_len {c : Cur} : (drawLines c).1.length ≤ 12 := by
  have := @linR_len (List.replicate 12 ()) 0 0 c []
  rw [List.length_replicate, List.length_nil] at this
  unfold drawLines
  omega
theorem labG {n : Nat} (h : n < 3) : List.getD [[AV.str ⟨#[97]⟩], [.str ⟨#[98]⟩], [.str ⟨#[99]⟩]] n [] = [.str (labS n)] := by
  have : n = 0 ∨ n = 1 ∨ n = 2 := by omega
  rcases this with rfl | rfl | rfl <;> rfl
theorem labG' {n : Int} (h0 : 0 ≤ n) (h : n < 3) : List.getD [[AV.str ⟨#[97]⟩], [.str ⟨#[98]⟩], [.str ⟨#[99]⟩]] n.toNat [] = [.str (labS n)] := by
  obtain ⟨k, rfl⟩ : ∃ k : Nat, n = k := ⟨n.toNat, by omega⟩
  rw [Int.toNat_natCast]
  exact labG (by omega)
theorem lines_snocL {xs : List DLine} {u : Nat} : xs.map cLine ++ [[.str (labS u), .int .i64 0, .int .i64 0, .int .i64 0, .int .i64 0, .str ⟨#[]⟩]] = (xs ++ [lineL u]).map cLine := by simp [lineL]
theorem lines_snocI {xs : List DLine} {x : DIns} : xs.map cLine ++ [[.str ⟨#[]⟩, .int .i64 x.Op, .int .i64 x.A, .int .i64 x.B, .int .i64 x.C, .str ⟨#[]⟩]] = (xs ++ [lineI x]).map cLine := by simp [lineI]
theorem lines_snocJ {xs : List DLine} {x : DIns} {t : Int} : xs.map cLine ++ [[.str ⟨#[]⟩, .int .i64 x.Op, .int .i64 x.A, .int .i64 x.B, .int .i64 0, .str (labS t)]] = (xs ++ [lineJ x t]).map cLine := by simp [lineJ]
theorem loop_l16Lines (xs : List Unit) (hxs : xs.length = 12) (c0 : Cur) (hb : c0.b.length ≤ 1048576) : loopV X_spec_l16Lines 1 [0, 3, 4, 5, 6] [(1, [3])] B0_spec_l16Lines ⟨[(0, .ptr ⟨0, none, 0⟩ 3 0 0), (3, .sl ⟨1, none, 0⟩ 6 0 0), (4, .sl ⟨2, none, 0⟩ 1 0 3), (5, .int .i64 0), (6, .int .i64 0)], [some ⟨true, 0, 3, [[.tree 1 (c0.b.map cY), .int .i64 (c0.i : Int), .int .i64 c0.h]]⟩, some ⟨false, 0, 6, []⟩, some ⟨false, 0, 1, [[.str ⟨#[97]⟩], [.str ⟨#[98]⟩], [.str ⟨#[99]⟩]]⟩]⟩
    = some (.exit 0, ⟨[(3, .sl ⟨1, none, 0⟩ 6 0 (linR xs 0 0 c0 []).1.length)], [some ⟨true, 0, 3, [[.tree 1 ((linR xs 0 0 c0 []).2.b.map cY), .int .i64 ((linR xs 0 0 c0 []).2.i : Int), .int .i64 (linR xs 0 0 c0 []).2.h]]⟩, some ⟨false, 0, 6, (linR xs 0 0 c0 []).1.map cLine⟩]⟩) := by
  refine loop_list xs (fun i (a : Nat × Nat × Cur × List DLine) => a.1 = i ∧ a.2.1 ≤ 3 ∧ a.2.2.1.b.length ≤ 1048576 ∧ a.2.2.2.length ≤ i)
    (fun i a => ⟨[(0, .ptr ⟨0, none, 0⟩ 3 0 0), (3, .sl ⟨1, none, 0⟩ 6 0 a.2.2.2.length), (4, .sl ⟨2, none, 0⟩ 1 0 3), (5, .int .i64 (a.2.1 : Int)), (6, .int .i64 ((i : Nat) : Int))], [some ⟨true, 0, 3, [[.tree 1 (a.2.2.1.b.map cY), .int .i64 (a.2.2.1.i : Int), .int .i64 a.2.2.1.h]]⟩, some ⟨false, 0, 6, a.2.2.2.map cLine⟩, some ⟨false, 0, 1, [[.str ⟨#[97]⟩], [.str ⟨#[98]⟩], [.str ⟨#[99]⟩]]⟩]⟩)
    (fun rest a => some (.exit 0, ⟨[(3, .sl ⟨1, none, 0⟩ 6 0 (linR rest a.1 a.2.1 a.2.2.1 a.2.2.2).1.length)], [some ⟨true, 0, 3, [[.tree 1 ((linR rest a.1 a.2.1 a.2.2.1 a.2.2.2).2.b.map cY), .int .i64 ((linR rest a.1 a.2.1 a.2.2.1 a.2.2.2).2.i : Int), .int .i64 (linR rest a.1 a.2.1 a.2.2.1 a.2.2.2).2.h]]⟩, some ⟨false, 0, 6, (linR rest a.1 a.2.1 a.2.2.1 a.2.2.2).1.map cLine⟩]⟩)) ?_ ?_ (0, 0, c0, []) ⟨rfl, by simp, hb, Nat.le_refl _⟩
  · rintro ⟨i, u, c, out⟩ ⟨rfl, hu, hb, ho⟩
    simp only at hb ho hu
    have hd := @belowF_bd 12 c (by decide)
    have hlt : ¬ ((xs.length : Nat) : Int) < (belowF 12 c).1 := by omega
    rw [loopV_by B0_spec_l16Lines.eq_1]
    simp (maxSteps := 10000000) (disch := first | assumption | omega) only [EG, EL, simprocAttr, FB, ED, EF, FT, cx_spec_l16Lines, cl_spec_l01Below, fsem_spec_l01Below, hlt, linR]
  · rintro i hi0 y rest ⟨i, u, c, out⟩ rfl rfl ⟨rfl, hu, hb, ho⟩ ih
    simp only at hb ho hu ih
    have hd := @belowF_bd 12 c (by decide)
    have b1 : (belowF 12 c).2.b.length ≤ 1048576 := by rw [belowF_b]; exact hb
    have b2 : (belowF 4 (belowF 12 c).2).2.b.length ≤ 1048576 := by rw [belowF_b]; exact b1
    have b3 : (l14F (belowF 4 (belowF 12 c).2).2).2.b.length ≤ 1048576 := by rw [l14F_b]; exact b2
    have hc : (out.length + 1) * 64 ≤ 70368744177664 := by omega
    rw [loopV_by B0_spec_l16Lines.eq_1]
    by_cases hlt : (i : Int) < (belowF 12 c).1
    · by_cases h0 : (belowF 4 (belowF 12 c).2).1 = 0
      · by_cases hu3 : u < 3
        · have hu3' : (u : Int) < 3 := by omega
          have i1 := ih (i + 1, u + 1, (belowF 4 (belowF 12 c).2).2, out ++ [lineL u]) ⟨rfl, Nat.succ_le_of_lt hu3, b2, by simp only [List.length_append, List.length_singleton]; omega⟩
          simp only [EG, EL, simprocAttr, FB] at i1
          simp (maxSteps := 10000000) (disch := first | assumption | omega) only [EG, EL, simprocAttr, FB, ED, EF, FT, cx_spec_l16Lines, cl_spec_l01Below, fsem_spec_l01Below, cl_spec_l01Once, fsem_spec_l01Once, cl_spec_l14Ins, fsem_spec_l14Ins, wrap_succ, hlt, hc, linR, decide_true, decide_false, h0, hu3, hu3', labG hu3, lines_snocL]
          exact i1
        · have hu3' : ¬ (u : Int) < 3 := by omega
          have hn : ¬ ((belowF 4 (belowF 12 c).2).1 = 0 ∧ u < 3) := by omega
          have hx : ∀ y, linR (y :: (xs.drop (i + 1))) i u c out = (if ((l14F (belowF 4 (belowF 12 c).2).2).1.Op = 7 ∨ (l14F (belowF 4 (belowF 12 c).2).2).1.Op = 8) ∧ 0 < u then linR (xs.drop (i + 1)) (i + 1) u (belowF u (l14F (belowF 4 (belowF 12 c).2).2).2).2 (out ++ [lineJ (l14F (belowF 4 (belowF 12 c).2).2).1 (belowF u (l14F (belowF 4 (belowF 12 c).2).2).2).1]) else linR (xs.drop (i + 1)) (i + 1) u (l14F (belowF 4 (belowF 12 c).2).2).2 (out ++ [lineI (l14F (belowF 4 (belowF 12 c).2).2).1])) := fun y => by
            simp only [linR, hlt, hn, if_true, if_false]
          rw [hx]
          by_cases hop : ((l14F (belowF 4 (belowF 12 c).2).2).1.Op = 7 ∨ (l14F (belowF 4 (belowF 12 c).2).2).1.Op = 8) ∧ 0 < u
          · have hu0 : (0 : Int) < (u : Int) := by omega
            have hdu := @belowF_bd (u : Int) (l14F (belowF 4 (belowF 12 c).2).2).2 hu0
            have b4 : (belowF u (l14F (belowF 4 (belowF 12 c).2).2).2).2.b.length ≤ 1048576 := by rw [belowF_b]; exact b3
            have hg := @labG' (belowF u (l14F (belowF 4 (belowF 12 c).2).2).2).1 (by omega) (by omega)
            have hlt3 : (belowF u (l14F (belowF 4 (belowF 12 c).2).2).2).1 < 3 := by omega
            have hge0 : 0 ≤ (belowF u (l14F (belowF 4 (belowF 12 c).2).2).2).1 := by omega
            have hnt : (belowF u (l14F (belowF 4 (belowF 12 c).2).2).2).1.toNat < 3 := by omega
            have i1 := ih (i + 1, u, (belowF u (l14F (belowF 4 (belowF 12 c).2).2).2).2, out ++ [lineJ (l14F (belowF 4 (belowF 12 c).2).2).1 (belowF u (l14F (belowF 4 (belowF 12 c).2).2).2).1]) ⟨rfl, hu, b4, by simp only [List.length_append, List.length_singleton]; omega⟩
            simp only [EG, EL, simprocAttr, FB] at i1
            rw [if_pos hop]
            rcases hop with ⟨h7, _⟩
            by_cases h7a : (l14F (belowF 4 (belowF 12 c).2).2).1.Op = 7
            · simp (maxSteps := 10000000) (disch := first | assumption | omega) only [EG, EL, simprocAttr, FB, ED, EF, FT, cx_spec_l16Lines, cl_spec_l01Below, fsem_spec_l01Below, cl_spec_l01Once, fsem_spec_l01Once, cl_spec_l14Ins, fsem_spec_l14Ins, wrap_succ, hlt, hc, linR, decide_true, decide_false, h0, hu3', eq_true h7a, hu0, hg, hlt3, hge0, hnt, lines_snocJ]
              exact i1
            · have h8a : (l14F (belowF 4 (belowF 12 c).2).2).1.Op = 8 := by omega
              simp (maxSteps := 10000000) (disch := first | assumption | omega) only [EG, EL, simprocAttr, FB, ED, EF, FT, cx_spec_l16Lines, cl_spec_l01Below, fsem_spec_l01Below, cl_spec_l01Once, fsem_spec_l01Once, cl_spec_l14Ins, fsem_spec_l14Ins, wrap_succ, hlt, hc, linR, decide_true, decide_false, h0, hu3', h7a, eq_true h8a, hu0, hg, hlt3, hge0, hnt, lines_snocJ]
              exact i1
          · have i1 := ih (i + 1, u, (l14F (belowF 4 (belowF 12 c).2).2).2, out ++ [lineI (l14F (belowF 4 (belowF 12 c).2).2).1]) ⟨rfl, hu, b3, by simp only [List.length_append, List.length_singleton]; omega⟩
            simp only [EG, EL, simprocAttr, FB] at i1
            rw [if_neg hop]
            by_cases hu0 : (0 : Int) < (u : Int)
            · have h7a : ¬ (l14F (belowF 4 (belowF 12 c).2).2).1.Op = 7 := fun e => hop ⟨.inl e, by omega⟩
              have h8a : ¬ (l14F (belowF 4 (belowF 12 c).2).2).1.Op = 8 := fun e => hop ⟨.inr e, by omega⟩
              simp (maxSteps := 10000000) (disch := first | assumption | omega) only [EG, EL, simprocAttr, FB, ED, EF, FT, cx_spec_l16Lines, cl_spec_l01Below, fsem_spec_l01Below, cl_spec_l01Once, fsem_spec_l01Once, cl_spec_l14Ins, fsem_spec_l14Ins, wrap_succ, hlt, hc, linR, decide_true, decide_false, h0, hu3', h7a, h8a, hu0, lines_snocI]
              exact i1
            · have h7b : True := trivial
              by_cases h7a : (l14F (belowF 4 (belowF 12 c).2).2).1.Op = 7
              · simp (maxSteps := 10000000) (disch := first | assumption | omega) only [EG, EL, simprocAttr, FB, ED, EF, FT, cx_spec_l16Lines, cl_spec_l01Below, fsem_spec_l01Below, cl_spec_l01Once, fsem_spec_l01Once, cl_spec_l14Ins, fsem_spec_l14Ins, wrap_succ, hlt, hc, linR, decide_true, decide_false, h0, hu3', eq_true h7a, hu0, lines_snocI]
                exact i1
              · by_cases h8a : (l14F (belowF 4 (belowF 12 c).2).2).1.Op = 8
                · simp (maxSteps := 10000000) (disch := first | assumption | omega) only [EG, EL, simprocAttr, FB, ED, EF, FT, cx_spec_l16Lines, cl_spec_l01Below, fsem_spec_l01Below, cl_spec_l01Once, fsem_spec_l01Once, cl_spec_l14Ins, fsem_spec_l14Ins, wrap_succ, hlt, hc, linR, decide_true, decide_false, h0, hu3', h7a, eq_true h8a, hu0, lines_snocI]
                  exact i1
                · simp (maxSteps := 10000000) (disch := first | assumption | omega) only [EG, EL, simprocAttr, FB, ED, EF, FT, cx_spec_l16Lines, cl_spec_l01Below, fsem_spec_l01Below, cl_spec_l01Once, fsem_spec_l01Once, cl_spec_l14Ins, fsem_spec_l14Ins, wrap_succ, hlt, hc, linR, decide_true, decide_false, h0, hu3', h7a, h8a, hu0, lines_snocI]
                  exact i1
      · have hn : ¬ ((belowF 4 (belowF 12 c).2).1 = 0 ∧ u < 3) := by omega
        have hx : ∀ y, linR (y :: (xs.drop (i + 1))) i u c out = (if ((l14F (belowF 4 (belowF 12 c).2).2).1.Op = 7 ∨ (l14F (belowF 4 (belowF 12 c).2).2).1.Op = 8) ∧ 0 < u then linR (xs.drop (i + 1)) (i + 1) u (belowF u (l14F (belowF 4 (belowF 12 c).2).2).2).2 (out ++ [lineJ (l14F (belowF 4 (belowF 12 c).2).2).1 (belowF u (l14F (belowF 4 (belowF 12 c).2).2).2).1]) else linR (xs.drop (i + 1)) (i + 1) u (l14F (belowF 4 (belowF 12 c).2).2).2 (out ++ [lineI (l14F (belowF 4 (belowF 12 c).2).2).1])) := fun y => by
          simp only [linR, hlt, hn, if_true, if_false]
        rw [hx]
        by_cases hop : ((l14F (belowF 4 (belowF 12 c).2).2).1.Op = 7 ∨ (l14F (belowF 4 (belowF 12 c).2).2).1.Op = 8) ∧ 0 < u
        · have hu0 : (0 : Int) < (u : Int) := by omega
          have hdu := @belowF_bd (u : Int) (l14F (belowF 4 (belowF 12 c).2).2).2 hu0
          have b4 : (belowF u (l14F (belowF 4 (belowF 12 c).2).2).2).2.b.length ≤ 1048576 := by rw [belowF_b]; exact b3
          have hg := @labG' (belowF u (l14F (belowF 4 (belowF 12 c).2).2).2).1 (by omega) (by omega)
          have hlt3 : (belowF u (l14F (belowF 4 (belowF 12 c).2).2).2).1 < 3 := by omega
          have hge0 : 0 ≤ (belowF u (l14F (belowF 4 (belowF 12 c).2).2).2).1 := by omega
          have hnt : (belowF u (l14F (belowF 4 (belowF 12 c).2).2).2).1.toNat < 3 := by omega
          have i1 := ih (i + 1, u, (belowF u (l14F (belowF 4 (belowF 12 c).2).2).2).2, out ++ [lineJ (l14F (belowF 4 (belowF 12 c).2).2).1 (belowF u (l14F (belowF 4 (belowF 12 c).2).2).2).1]) ⟨rfl, hu, b4, by simp only [List.length_append, List.length_singleton]; omega⟩
          simp only [EG, EL, simprocAttr, FB] at i1
          rw [if_pos hop]
          rcases hop with ⟨h7, _⟩
          by_cases h7a : (l14F (belowF 4 (belowF 12 c).2).2).1.Op = 7
          · simp (maxSteps := 10000000) (disch := first | assumption | omega) only [EG, EL, simprocAttr, FB, ED, EF, FT, cx_spec_l16Lines, cl_spec_l01Below, fsem_spec_l01Below, cl_spec_l01Once, fsem_spec_l01Once, cl_spec_l14Ins, fsem_spec_l14Ins, wrap_succ, hlt, hc, linR, decide_true, decide_false, h0, eq_true h7a, hu0, hg, hlt3, hge0, hnt, lines_snocJ]
            exact i1
          · have h8a : (l14F (belowF 4 (belowF 12 c).2).2).1.Op = 8 := by omega
            simp (maxSteps := 10000000) (disch := first | assumption | omega) only [EG, EL, simprocAttr, FB, ED, EF, FT, cx_spec_l16Lines, cl_spec_l01Below, fsem_spec_l01Below, cl_spec_l01Once, fsem_spec_l01Once, cl_spec_l14Ins, fsem_spec_l14Ins, wrap_succ, hlt, hc, linR, decide_true, decide_false, h0, h7a, eq_true h8a, hu0, hg, hlt3, hge0, hnt, lines_snocJ]
            exact i1
        · have i1 := ih (i + 1, u, (l14F (belowF 4 (belowF 12 c).2).2).2, out ++ [lineI (l14F (belowF 4 (belowF 12 c).2).2).1]) ⟨rfl, hu, b3, by simp only [List.length_append, List.length_singleton]; omega⟩
          simp only [EG, EL, simprocAttr, FB] at i1
          rw [if_neg hop]
          by_cases hu0 : (0 : Int) < (u : Int)
          · have h7a : ¬ (l14F (belowF 4 (belowF 12 c).2).2).1.Op = 7 := fun e => hop ⟨.inl e, by omega⟩
            have h8a : ¬ (l14F (belowF 4 (belowF 12 c).2).2).1.Op = 8 := fun e => hop ⟨.inr e, by omega⟩
            simp (maxSteps := 10000000) (disch := first | assumption | omega) only [EG, EL, simprocAttr, FB, ED, EF, FT, cx_spec_l16Lines, cl_spec_l01Below, fsem_spec_l01Below, cl_spec_l01Once, fsem_spec_l01Once, cl_spec_l14Ins, fsem_spec_l14Ins, wrap_succ, hlt, hc, linR, decide_true, decide_false, h0, h7a, h8a, hu0, lines_snocI]
            exact i1
          · have h7b : True := trivial
            by_cases h7a : (l14F (belowF 4 (belowF 12 c).2).2).1.Op = 7
            · simp (maxSteps := 10000000) (disch := first | assumption | omega) only [EG, EL, simprocAttr, FB, ED, EF, FT, cx_spec_l16Lines, cl_spec_l01Below, fsem_spec_l01Below, cl_spec_l01Once, fsem_spec_l01Once, cl_spec_l14Ins, fsem_spec_l14Ins, wrap_succ, hlt, hc, linR, decide_true, decide_false, h0, eq_true h7a, hu0, lines_snocI]
              exact i1
            · by_cases h8a : (l14F (belowF 4 (belowF 12 c).2).2).1.Op = 8
              · simp (maxSteps := 10000000) (disch := first | assumption | omega) only [EG, EL, simprocAttr, FB, ED, EF, FT, cx_spec_l16Lines, cl_spec_l01Below, fsem_spec_l01Below, cl_spec_l01Once, fsem_spec_l01Once, cl_spec_l14Ins, fsem_spec_l14Ins, wrap_succ, hlt, hc, linR, decide_true, decide_false, h0, h7a, eq_true h8a, hu0, lines_snocI]
                exact i1
              · simp (maxSteps := 10000000) (disch := first | assumption | omega) only [EG, EL, simprocAttr, FB, ED, EF, FT, cx_spec_l16Lines, cl_spec_l01Below, fsem_spec_l01Below, cl_spec_l01Once, fsem_spec_l01Once, cl_spec_l14Ins, fsem_spec_l14Ins, wrap_succ, hlt, hc, linR, decide_true, decide_false, h0, h7a, h8a, hu0, lines_snocI]
                exact i1
    · simp (maxSteps := 10000000) (disch := first | assumption | omega) only [EG, EL, simprocAttr, FB, ED, EF, FT, cx_spec_l16Lines, cl_spec_l01Below, fsem_spec_l01Below, hlt, linR]
theorem fsem_spec_l16Lines (c : Cur) (hb : c.b.length ≤ 1048576) : H_spec_l16Lines [.ptr ⟨0, none, 0⟩ 3 0 0] [some ⟨true, 0, 3, [[.tree 1 (c.b.map cY), .int .i64 (c.i : Int), .int .i64 c.h]]⟩] = some (.sl ⟨1, none, 0⟩ 6 0 (drawLines c).1.length, [some ⟨true, 0, 3, [[.tree 1 ((drawLines c).2.b.map cY), .int .i64 ((drawLines c).2.i : Int), .int .i64 (drawLines c).2.h]]⟩, some ⟨false, 0, 6, (drawLines c).1.map cLine⟩]) := by
  have l := loop_l16Lines (List.replicate 12 ()) (by simp) c hb
  rw [sh_spec_l16Lines, run_goF]
  simp (maxSteps := 10000000) (disch := first | assumption | omega) only [F_spec_l16Lines, params, EG, EL, simprocAttr, FB, ED, EF, FT, cx_spec_l16Lines, l]
  rfl
theorem sem_spec_DrawLines (bs : List UInt8) (hb : bs.length ≤ 1048576) : S_spec_DrawLines.sem [.tree 1 (bs.map cY)] = some (.tree 6 ((drawLines (curNew bs)).1.map cLine), []) := by
  have hb' : (curNew bs).b.length ≤ 1048576 := hb
  rw [sg_spec_DrawLines, sem_go]
  simp (maxSteps := 10000000) (disch := first | assumption | omega) only [F_spec_DrawLines, params, EG, EL, simprocAttr, FB, ED, EF, FT, cx_spec_DrawLines, cl_spec_l01New, fsem_spec_l01New, cl_spec_l16Lines, fsem_spec_l16Lines]
def anyL (c : Cur) : List DLine × Cur :=
  if (belowF 12 c).1 = 0 then ((drawLines (belowF 12 c).2).1 ++ [⟨⟨#[97]⟩, ⟨0, 0, 0, 0⟩, ⟨#[]⟩⟩], (drawLines (belowF 12 c).2).2)
  else if (belowF 12 c).1 = 1 then ((drawLines (belowF 12 c).2).1 ++ [⟨⟨#[]⟩, ⟨8, 0, 0, 0⟩, ⟨#[110, 111, 110, 101]⟩⟩], (drawLines (belowF 12 c).2).2)
  else if (belowF 12 c).1 = 2 then ((drawLines (belowF 12 c).2).1 ++ [lineI (anyF (drawLines (belowF 12 c).2).2).1], (anyF (drawLines (belowF 12 c).2).2).2)
  else if (belowF 12 c).1 = 3 then ((drawLines (belowF 12 c).2).1 ++ [⟨⟨#[120]⟩, ⟨5, 0, 0, 0⟩, ⟨#[]⟩⟩], (drawLines (belowF 12 c).2).2)
  else if (belowF 12 c).1 = 4 then ((drawLines (belowF 12 c).2).1 ++ [⟨⟨#[]⟩, ⟨0, 0, 0, 0⟩, ⟨#[]⟩⟩], (drawLines (belowF 12 c).2).2)
  else drawLines (belowF 12 c).2
theorem anyL_len {c : Cur} : (anyL c).1.length ≤ 13 := by
  have := @drawLines_len (belowF 12 c).2
  unfold anyL
  (repeat' split) <;> (try simp only [List.length_append, List.length_singleton]) <;> omega
set_option maxHeartbeats 4000000 in
theorem fsem_spec_l16Any (c : Cur) (hb : c.b.length ≤ 1048576) : H_spec_l16Any [.ptr ⟨0, none, 0⟩ 3 0 0] [some ⟨true, 0, 3, [[.tree 1 (c.b.map cY), .int .i64 (c.i : Int), .int .i64 c.h]]⟩] = some (.sl ⟨1, none, 0⟩ 6 0 (anyL c).1.length, [some ⟨true, 0, 3, [[.tree 1 ((anyL c).2.b.map cY), .int .i64 ((anyL c).2.i : Int), .int .i64 (anyL c).2.h]]⟩, some ⟨false, 0, 6, (anyL c).1.map cLine⟩]) := by
  have b1 : (belowF 12 c).2.b.length ≤ 1048576 := by rw [belowF_b]; exact hb
  have b2 : (drawLines (belowF 12 c).2).2.b.length ≤ 1048576 := by rw [drawLines_b]; exact b1
  have hl := @drawLines_len (belowF 12 c).2
  have hc : (drawLines (belowF 12 c).2).1.length * 64 ≤ 70368744177664 := by omega
  have hc1 : ((drawLines (belowF 12 c).2).1.length + 1) * 64 ≤ 70368744177664 := by omega
  rw [sh_spec_l16Any, run_goF]
  by_cases h0 : (belowF 12 c).1 = 0
  · rw [show anyL c = _ from by unfold anyL; rw [if_pos h0]]
    simp (maxSteps := 10000000) (disch := first | assumption | omega) only [F_spec_l16Any, params, EG, EL, simprocAttr, FB, ED, EF, FT, cx_spec_l16Any, cl_spec_l01Below, fsem_spec_l01Below, cl_spec_l16Lines, fsem_spec_l16Lines, h0, hc, hc1]
    simp only [List.map_append, List.map_cons, List.map_nil, lineI]
  · by_cases h1 : (belowF 12 c).1 = 1
    · rw [show anyL c = _ from by unfold anyL; rw [if_neg h0, if_pos h1]]
      simp (maxSteps := 10000000) (disch := first | assumption | omega) only [F_spec_l16Any, params, EG, EL, simprocAttr, FB, ED, EF, FT, cx_spec_l16Any, cl_spec_l01Below, fsem_spec_l01Below, cl_spec_l16Lines, fsem_spec_l16Lines, h0, h1, hc, hc1]
      simp only [List.map_append, List.map_cons, List.map_nil, lineI]
    · by_cases h2 : (belowF 12 c).1 = 2
      · rw [show anyL c = _ from by unfold anyL; rw [if_neg h0, if_neg h1, if_pos h2]]
        simp (maxSteps := 10000000) (disch := first | assumption | omega) only [F_spec_l16Any, params, EG, EL, simprocAttr, FB, ED, EF, FT, cx_spec_l16Any, cl_spec_l01Below, fsem_spec_l01Below, cl_spec_l16Lines, fsem_spec_l16Lines, cl_spec_l14Any, fsem_spec_l14Any, h0, h1, h2, hc, hc1]
        simp only [List.map_append, List.map_cons, List.map_nil, lineI]
      · by_cases h3 : (belowF 12 c).1 = 3
        · rw [show anyL c = _ from by unfold anyL; rw [if_neg h0, if_neg h1, if_neg h2, if_pos h3]]
          simp (maxSteps := 10000000) (disch := first | assumption | omega) only [F_spec_l16Any, params, EG, EL, simprocAttr, FB, ED, EF, FT, cx_spec_l16Any, cl_spec_l01Below, fsem_spec_l01Below, cl_spec_l16Lines, fsem_spec_l16Lines, h0, h1, h2, h3, hc, hc1]
          simp only [List.map_append, List.map_cons, List.map_nil, lineI]
        · by_cases h4 : (belowF 12 c).1 = 4
          · rw [show anyL c = _ from by unfold anyL; rw [if_neg h0, if_neg h1, if_neg h2, if_neg h3, if_pos h4]]
            simp (maxSteps := 10000000) (disch := first | assumption | omega) only [F_spec_l16Any, params, EG, EL, simprocAttr, FB, ED, EF, FT, cx_spec_l16Any, cl_spec_l01Below, fsem_spec_l01Below, cl_spec_l16Lines, fsem_spec_l16Lines, h0, h1, h2, h3, h4, hc, hc1]
            simp only [List.map_append, List.map_cons, List.map_nil, lineI]
          · rw [show anyL c = drawLines (belowF 12 c).2 from by unfold anyL; rw [if_neg h0, if_neg h1, if_neg h2, if_neg h3, if_neg h4]]
            simp (maxSteps := 10000000) (disch := first | assumption | omega) only [F_spec_l16Any, params, EG, EL, simprocAttr, FB, ED, EF, FT, cx_spec_l16Any, cl_spec_l01Below, fsem_spec_l01Below, cl_spec_l16Lines, fsem_spec_l16Lines, h0, h1, h2, h3, h4, hc, hc1]
theorem sem_spec_DrawAssemble (bs : List UInt8) (hb : bs.length ≤ 1048576) : S_spec_DrawAssemble.sem [.tree 1 (bs.map cY)] = some (.tree 6 ((anyL (curNew bs)).1.map cLine), []) := by
  have hb' : (curNew bs).b.length ≤ 1048576 := hb
  rw [sg_spec_DrawAssemble, sem_go]
  simp (maxSteps := 10000000) (disch := first | assumption | omega) only [F_spec_DrawAssemble, params, EG, EL, simprocAttr, FB, ED, EF, FT, cx_spec_DrawAssemble, cl_spec_l01New, fsem_spec_l01New, cl_spec_l16Any, fsem_spec_l16Any]
/-! lines that are drawn right -/
def lineG : List DLine → Nat → Prop
  | [], _ => True
  | x :: xs, u => (x = lineL u ∧ u < 3 ∧ lineG xs (u + 1)) ∨ ((∃ y : DIns, insOk y.Op y.A y.B y.C = true ∧ x = lineI y) ∧ lineG xs u) ∨ ((∃ (y : DIns) (t : Nat), insOk y.Op y.A y.B y.C = true ∧ (y.Op = 7 ∨ y.Op = 8) ∧ t < u ∧ u ≤ 3 ∧ x = lineJ y t) ∧ lineG xs u)
theorem linR_G : ∀ (n : List Unit) (i u : Nat) (c : Cur) (out : List DLine), u ≤ 3 → ∃ r, (linR n i u c out).1 = out ++ r ∧ lineG r u
  | [], _, _, c, out, _ => ⟨[], by simp [linR], trivial⟩
  | _ :: n, i, u, c, out, hu => by
    simp only [linR]
    split
    · split
      · rename_i h
        obtain ⟨r, h1, h2⟩ := linR_G n (i + 1) (u + 1) (belowF 4 (belowF 12 c).2).2 (out ++ [lineL u]) (by omega)
        exact ⟨lineL u :: r, by rw [h1]; simp, .inl ⟨rfl, h.2, h2⟩⟩
      · split
        · rename_i h
          have hd := @belowF_bd (u : Int) (l14F (belowF 4 (belowF 12 c).2).2).2 (by omega)
          obtain ⟨t, ht⟩ : ∃ t : Nat, (belowF u (l14F (belowF 4 (belowF 12 c).2).2).2).1 = (t : Int) := ⟨(belowF u (l14F (belowF 4 (belowF 12 c).2).2).2).1.toNat, by omega⟩
          obtain ⟨r, h1, h2⟩ := linR_G n (i + 1) u (belowF u (l14F (belowF 4 (belowF 12 c).2).2).2).2 (out ++ [lineJ (l14F (belowF 4 (belowF 12 c).2).2).1 (belowF u (l14F (belowF 4 (belowF 12 c).2).2).2).1]) hu
          exact ⟨lineJ (l14F (belowF 4 (belowF 12 c).2).2).1 (belowF u (l14F (belowF 4 (belowF 12 c).2).2).2).1 :: r, by rw [h1]; simp, .inr (.inr ⟨⟨_, t, l14F_ok, h.1, by omega, hu, by rw [ht]⟩, h2⟩)⟩
        · obtain ⟨r, h1, h2⟩ := linR_G n (i + 1) u (l14F (belowF 4 (belowF 12 c).2).2).2 (out ++ [lineI (l14F (belowF 4 (belowF 12 c).2).2).1]) hu
          exact ⟨lineI (l14F (belowF 4 (belowF 12 c).2).2).1 :: r, by rw [h1]; simp, .inr (.inl ⟨⟨_, l14F_ok, rfl⟩, h2⟩)⟩
    · exact ⟨[], by simp, trivial⟩
theorem drawLines_G (c : Cur) : lineG (drawLines c).1 0 := by
  obtain ⟨r, h1, h2⟩ := linR_G (List.replicate 12 ()) 0 0 c [] (by omega)
  unfold drawLines
  rw [h1]; exact h2
theorem fIx_app {α : Type} (p : α → Bool) : ∀ (xs ys : List α) (i : Nat), fIx p (xs ++ ys) i = if fIx p xs i < 0 then fIx p ys (i + xs.length) else fIx p xs i
  | [], ys, i => by simp [fIx]
  | x :: xs, ys, i => by
    simp only [List.cons_append, fIx]
    split
    · rw [if_neg (by omega)]
    · rw [fIx_app p xs ys (i + 1)]
      simp only [List.length_cons]
      rw [show i + 1 + xs.length = i + (xs.length + 1) by omega]
theorem labS_ne {a b : Nat} (ha : a < 3) (hb : b < 3) (h : a ≠ b) : labS a ≠ labS b := by
  have h1 : a = 0 ∨ a = 1 ∨ a = 2 := by omega
  have h2 : b = 0 ∨ b = 1 ∨ b = 2 := by omega
  rcases h1 with rfl | rfl | rfl <;> rcases h2 with rfl | rfl | rfl <;> first | (exact absurd rfl h) | decide
theorem labS_nil {a : Nat} : labS a ≠ ⟨#[]⟩ := by unfold labS; (repeat' split) <;> decide
theorem labS_none {a : Nat} : labS a ≠ ⟨#[110, 111, 110, 101]⟩ := by unfold labS; (repeat' split) <;> decide
theorem labS_size {a : Nat} : (labS a).size = 1 := by unfold labS; (repeat' split) <;> rfl
theorem isLab_L {l : ByteArray} {u : Nat} : isLab l (lineL u) = decide (labS u = l) := rfl
theorem isLab_I {l : ByteArray} {x : DIns} (h : insOk x.Op x.A x.B x.C = true) : isLab l (lineI x) = false := by
  simp only [insOk, decide_eq_true_eq] at h
  have : ¬ x.Op = 0 := by omega
  simp [isLab, lineI, this]
theorem isLab_J {l : ByteArray} {x : DIns} {t : Int} (h : x.Op = 7 ∨ x.Op = 8) : isLab l (lineJ x t) = false := by
  have : ¬ x.Op = 0 := by omega
  simp [isLab, lineJ, this]
theorem insOk_c {x : DIns} {c : Int} (h : insOk x.Op x.A x.B x.C = true) (ho : x.Op = 7 ∨ x.Op = 8) (hc : 0 ≤ c ∧ c ≤ 4194303) : insOk x.Op x.A x.B c = true := by
  simp only [insOk, decide_eq_true_eq] at h ⊢
  omega
/-- Of lines that are drawn right: which labels there are ahead of them. -/
structure preG (pre : List DLine) (u : Nat) : Prop where
  h1 : ∀ t : Nat, t < u → 0 ≤ fIx (isLab (labS t)) pre 0
  h2 : ∀ t : Nat, u ≤ t → t < 3 → fIx (isLab (labS t)) pre 0 = -1
theorem fIx_one {α : Type} {p : α → Bool} {x : α} {i : Nat} : fIx p [x] i = if p x = true then (i : Int) else -1 := rfl
theorem fIx_lt {α : Type} {p : α → Bool} {xs : List α} (h : ¬ 0 ≤ fIx p xs 0) : fIx p xs 0 = -1 := by
  rcases @fIx_ge α p xs 0 with h1 | h1
  · exact h1
  · omega
theorem preG_L {pre : List DLine} {u : Nat} (h : preG pre u) (hu : u < 3) : preG (pre ++ [lineL u]) (u + 1) := by
  refine ⟨fun t ht => ?_, fun t ht ht3 => ?_⟩
  · rw [fIx_app]
    split
    · rename_i hl
      have : t = u := by
        rcases Nat.lt_or_ge t u with h3 | h3
        · have := h.h1 t h3; omega
        · omega
      subst this
      rw [fIx_one, isLab_L, decide_eq_true rfl, if_pos rfl]; omega
    · omega
  · rw [fIx_app, h.h2 t (by omega) ht3, if_pos (by decide), fIx_one, isLab_L, decide_eq_false (labS_ne hu ht3 (by omega))]
    rfl
theorem preG_x {pre : List DLine} {u : Nat} {x : DLine} (h : preG pre u) (hx : ∀ l, isLab l x = false) : preG (pre ++ [x]) u := by
  have key : ∀ l, fIx (isLab l) (pre ++ [x]) 0 = fIx (isLab l) pre 0 := fun l => by
    rw [fIx_app]
    split
    · rename_i hl
      rw [fIx_one, hx l]
      have := fIx_lt (p := isLab l) (xs := pre) (by omega)
      rw [this]; rfl
    · rfl
  exact ⟨fun t ht => by rw [key]; exact h.h1 t ht, fun t h1 h2 => by rw [key]; exact h.h2 t h1 h2⟩
theorem lineG_ok (all : List DLine) : ∀ (xs pre : List DLine) (u : Nat), all = pre ++ xs → preG pre u → lineG xs u → linesB all xs pre.length = true
  | [], _, _, _, _, _ => rfl
  | x :: xs, pre, u, he, hp, hg => by
    have he' : all = (pre ++ [x]) ++ xs := by rw [he]; simp
    have hlen : pre.length + 1 = (pre ++ [x]).length := by simp
    simp only [linesB, Bool.and_eq_true]
    rcases hg with ⟨rfl, hu, hg⟩ | ⟨⟨y, hy, rfl⟩, hg⟩ | ⟨⟨y, t, hy, ho, ht, hu3, rfl⟩, hg⟩
    · refine ⟨?_, by rw [hlen]; exact lineG_ok all xs _ (u + 1) he' (preG_L hp hu) hg⟩
      have hf : fIx (isLab (labS u)) all 0 = (pre.length : Int) := by
        rw [he, fIx_app, hp.h2 u (Nat.le_refl _) hu, if_pos (by decide)]
        simp [fIx, isLab_L]
      simp [lineOk, lineL, insZ, labS_size, hf]
    · refine ⟨?_, by rw [hlen]; exact lineG_ok all xs _ u he' (preG_x hp fun l => isLab_I hy) hg⟩
      have h0 : ¬ y.Op = 0 := by
        have hy := hy
        simp only [insOk, decide_eq_true_eq] at hy; omega
      simp [lineOk, lineI, h0, hy]
    · refine ⟨?_, by rw [hlen]; exact lineG_ok all xs _ u he' (preG_x hp fun l => isLab_J ho) hg⟩
      have h0 : ¬ y.Op = 0 := by omega
      have h4 : ¬ y.Op = 4 := by omega
      have h3 := insOk_c (c := 0) hy ho (by omega)
      have hf : 0 ≤ fIx (isLab (labS t)) all 0 := by
        have h5 := hp.h1 t ht
        rw [he, fIx_app, if_neg (by omega)]; exact h5
      have hf' : ¬ fIx (isLab (labS t)) all 0 < 0 := by omega
      simp [lineOk, lineJ, h0, h4, h3, labS_nil]
      exact decide_eq_false hf'
theorem cntLe {α : Type} {p : α → Bool} : ∀ (xs : List α), cnt p xs ≤ xs.length
  | [] => Nat.le_refl _
  | x :: xs => by have := @cntLe α p xs; simp only [cnt, List.length_cons]; split <;> omega
theorem asmC_bd {all : List DLine} (hl : all.length ≤ 900) {x : DLine} (ht : x.Target ≠ ⟨#[]⟩) (hf : 0 ≤ fIx (isLab x.Target) all 0) : 0 ≤ asmC all x ∧ asmC all x ≤ 900 := by
  have := @cntLe _ isIns (all.take (fIx (isLab x.Target) all 0).toNat)
  rw [List.length_take] at this
  unfold asmC
  rw [if_neg ht, if_neg (by omega)]
  omega
theorem lineG_asm (all : List DLine) (hl : all.length ≤ 900) (hB : linesB all all 0 = true) : ∀ (xs : List DLine) (k : Nat) (u : Nat), lineG xs u → linesB all xs k = true → ∃ l, asmL all xs = some l
  | [], _, _, _, _ => ⟨[], rfl⟩
  | x :: xs, k, u, hg, hb => by
    simp only [linesB, Bool.and_eq_true] at hb
    obtain ⟨hb1, hb2⟩ := hb
    have step : (x.Ins.Op = 0 ∨ insOk x.Ins.Op x.Ins.A x.Ins.B (asmC all x) = true) → (∃ l, asmL all xs = some l) → ∃ l, asmL all (x :: xs) = some l := by
      rintro h ⟨l, h2⟩
      simp only [asmL]
      split
      · exact ⟨l, h2⟩
      · rename_i h0
        rw [if_pos (h.resolve_left h0), h2]; exact ⟨_, rfl⟩
    rcases hg with ⟨rfl, hu, hg⟩ | ⟨⟨y, hy, rfl⟩, hg⟩ | ⟨⟨y, t, hy, ho, ht, hu3, rfl⟩, hg⟩
    · exact step (.inl rfl) (lineG_asm all hl hB xs (k + 1) (u + 1) hg hb2)
    · refine step (.inr ?_) (lineG_asm all hl hB xs (k + 1) u hg hb2)
      simp only [asmC, lineI, if_true]; exact hy
    · refine step (.inr ?_) (lineG_asm all hl hB xs (k + 1) u hg hb2)
      have h0 : ¬ y.Op = 0 := by omega
      have hf : ¬ fIx (isLab (labS t)) all 0 < 0 := by
        simp only [lineOk, lineJ, h0, if_false, labS_nil, decide_false, Bool.false_or, Bool.and_eq_true, Bool.not_eq_true', decide_eq_false_iff_not] at hb1
        exact of_decide_eq_false hb1.2.2
      have := asmC_bd hl (x := lineJ y t) labS_nil (by simp only [lineJ]; omega)
      exact insOk_c (x := y) (c := asmC all (lineJ y t)) hy ho (by omega)
theorem asmL_cnt (all : List DLine) : ∀ (xs : List DLine) (l : List Int), asmL all xs = some l → l.length = cnt isIns xs
  | [], l, h => by simp [asmL] at h; subst h; rfl
  | x :: xs, l, h => by
    simp only [asmL] at h
    split at h
    · rename_i h0
      rw [asmL_cnt all xs l h]; simp [cnt, isIns, h0]
    · rename_i h0
      split at h
      · simp only [Option.map_eq_some_iff] at h
        obtain ⟨l', h1, rfl⟩ := h
        rw [List.length_cons, asmL_cnt all xs l' h1]; simp [cnt, isIns, h0]; omega
      · simp at h
theorem asmL_get (all : List DLine) : ∀ (xs : List DLine) (l : List Int), asmL all xs = some l → ∀ i (h : i < xs.length), xs[i].Ins.Op ≠ 0 → l[cnt isIns (xs.take i)]? = some (encN xs[i].Ins.Op xs[i].Ins.A xs[i].Ins.B (asmC all xs[i])) ∧ insOk xs[i].Ins.Op xs[i].Ins.A xs[i].Ins.B (asmC all xs[i]) = true
  | [], _, _, i, h, _ => by simp at h
  | x :: xs, l, hl, i, h, ho => by
    simp only [asmL] at hl
    split at hl
    · rename_i h0
      cases i with
      | zero => exact absurd h0 ho
      | succ i =>
        have := asmL_get all xs l hl i (by simpa using h) (by simpa using ho)
        simpa [cnt, isIns, h0] using this
    · rename_i h0
      split at hl
      · rename_i hok
        simp only [Option.map_eq_some_iff] at hl
        obtain ⟨l', h1, rfl⟩ := hl
        cases i with
        | zero => exact ⟨by simp [cnt], hok⟩
        | succ i =>
          have := asmL_get all xs l' h1 i (by simpa using h) (by simpa using ho)
          simp only [List.take_succ_cons, cnt, isIns, h0, decide_false, Bool.not_false, if_true, List.getElem_cons_succ]
          rw [Nat.add_comm 1, List.getElem?_cons_succ]
          exact this
      · simp at hl
theorem cnt_take {xs : List DLine} {i : Nat} (h : i < xs.length) : cnt isIns (xs.take (i + 1)) = cnt isIns (xs.take i) + (if xs[i].Ins.Op = 0 then 0 else 1) := by
  have app : ∀ (a : List DLine) (x : DLine), cnt isIns (a ++ [x]) = cnt isIns a + (if x.Ins.Op = 0 then 0 else 1) := by
    intro a x
    induction a with
    | nil => simp [cnt, isIns]
    | cons y a ih => simp only [List.cons_append, cnt, ih]; omega
  rw [List.take_succ_eq_append_getElem h, app]
theorem lineG_none : ∀ (xs : List DLine) (u k : Nat), lineG xs u → fIx (isLab ⟨#[110, 111, 110, 101]⟩) xs k = -1
  | [], _, _, _ => rfl
  | x :: xs, u, k, hg => by
    rcases hg with ⟨rfl, hu, hg⟩ | ⟨⟨y, hy, rfl⟩, hg⟩ | ⟨⟨y, t, hy, ho, ht, hu3, rfl⟩, hg⟩
    · simp only [fIx, isLab_L, decide_eq_false (@labS_none u)]; exact lineG_none xs (u + 1) (k + 1) hg
    · simp only [fIx, isLab_I hy]; exact lineG_none xs u (k + 1) hg
    · simp only [fIx, isLab_J ho]; exact lineG_none xs u (k + 1) hg
theorem loop_FnLabels (bs : List UInt8) (xs : List DLine) (t : List Int) (hl : xs.length ≤ 900) (hB : linesB xs xs 0 = true) (ht : asmL xs xs = some t) : loopV X_laws_FnLabels 0 [0, 3, 4, 6, 7] [(1, [0, 3, 4, 6]), (0, [2])] B0_laws_FnLabels ⟨[(0, .tree 1 (bs.map cY)), (3, .sl ⟨0, none, 0⟩ 6 0 xs.length), (4, .sl ⟨1, none, 0⟩ 1 0 t.length), (6, .int .i64 0), (7, .int .i64 0)], [some ⟨false, 0, 6, xs.map cLine⟩, some ⟨false, 0, 1, t.map cI⟩]⟩
    = some (.exit 0, ⟨[(0, .tree 1 (bs.map cY)), (3, .sl ⟨0, none, 0⟩ 6 0 xs.length), (4, .sl ⟨1, none, 0⟩ 1 0 t.length), (6, .int .i64 (t.length : Int))], [some ⟨false, 0, 6, xs.map cLine⟩, some ⟨false, 0, 1, t.map cI⟩]⟩) := by
  have hc := asmL_cnt xs xs t ht
  refine loop_list xs (fun i (k : Nat) => k = cnt isIns (xs.take i)) (fun i k => ⟨[(0, .tree 1 (bs.map cY)), (3, .sl ⟨0, none, 0⟩ 6 0 xs.length), (4, .sl ⟨1, none, 0⟩ 1 0 t.length), (6, .int .i64 (k : Int)), (7, .int .i64 (i : Int))], [some ⟨false, 0, 6, xs.map cLine⟩, some ⟨false, 0, 1, t.map cI⟩]⟩)
    (fun rest k => some (.exit 0, ⟨[(0, .tree 1 (bs.map cY)), (3, .sl ⟨0, none, 0⟩ 6 0 xs.length), (4, .sl ⟨1, none, 0⟩ 1 0 t.length), (6, .int .i64 (t.length : Int))], [some ⟨false, 0, 6, xs.map cLine⟩, some ⟨false, 0, 1, t.map cI⟩]⟩)) ?_ ?_ 0 rfl
  · rintro k hk
    rw [List.take_length, ← hc] at hk
    rw [loopV_by B0_laws_FnLabels.eq_1, hk]
    simp only [EG, EL, simprocAttr, FB, int_lt_irrefl]
  · rintro i h x rest k rfl rfl hk ih
    have hi : (i : Int) < (xs.length : Int) := by omega
    have hp : xs.length ≤ 140737488351232 := by omega
    have hs := @cnt_take xs i h
    rw [loopV_by B0_laws_FnLabels.eq_1]
    by_cases h1 : xs[i].Ins.Op = 0
    · have h2 := linesB_get hB i h
      simp only [lineOk, h1, if_true, Bool.and_eq_true, decide_eq_true_eq] at h2
      have h3 : fIx (isLab xs[i].Label) xs 0 = (i : Int) := by simpa using h2.2.2.2
      have hP := sem_impl_PlaceOf xs xs[i].Label hp
      rw [h3, if_neg (by omega), Int.toNat_natCast, ← hk] at hP
      rw [if_pos h1, Nat.add_zero, ← hk] at hs
      have i1 := ih k hs.symm
      simp (maxSteps := 10000000) (disch := first | assumption | omega) only [EG, EL, simprocAttr, FB, FT, h, hi, wrap_succ, getRow _ _ h, h1, cx_laws_FnLabels, cl_impl_PlaceOf, hP, seg_full, seg_map, solid_cLine, decide_true, decide_false]
      exact i1
    · obtain ⟨g1, g2⟩ := asmL_get xs xs t ht i h h1
      rw [← hk] at g1
      rw [if_neg h1, ← hk] at hs
      have i1 := ih (k + 1) hs.symm
      have hkl : k < t.length := by
        rcases Nat.lt_or_ge k t.length with h9 | h9
        · exact h9
        · rw [List.getElem?_eq_none h9] at g1; simp at g1
      have hki : (k : Int) < (t.length : Int) := by omega
      have hkb : k ≤ 900 := by have := asmL_len xs xs t ht; omega
      have hg : (t.map cI).getD k [] = [.int .i64 (encF xs[i].Ins.Op xs[i].Ins.A xs[i].Ins.B (asmC xs xs[i]))] := by
        rw [getRow cI t hkl, encF_of g2]
        rw [List.getElem?_eq_getElem hkl] at g1
        simp only [Option.some.injEq] at g1
        rw [g1]
      have hD := sem_spec_Decode (encF xs[i].Ins.Op xs[i].Ins.A xs[i].Ins.B (asmC xs xs[i]))
      rw [decR_ok g2] at hD
      by_cases h2 : xs[i].Target = ⟨#[]⟩
      · have hC : asmC xs xs[i] = xs[i].Ins.C := by unfold asmC; rw [if_pos h2]
        rw [hC] at hD hg
        simp (maxSteps := 10000000) (disch := first | assumption | omega) only [EG, EL, simprocAttr, FB, FT, h, hi, wrap_succ, getRow _ _ h, h1, h2, hki, hg, hkl, cx_laws_FnLabels, cl_spec_Decode, hD, eqf4, Option.map_some, and_self, decide_true, decide_false, seg_full, seg_map, solid_cLine]
        exact i1
      · have hP := sem_spec_PlaceOf xs xs[i].Target hp
        have hC : asmC xs xs[i] = (if fIx (isLab xs[i].Target) xs 0 < 0 then -1 else (cnt isIns (xs.take (fIx (isLab xs[i].Target) xs 0).toNat) : Int)) := by unfold asmC; rw [if_neg h2]
        rw [← hC] at hP
        generalize asmC xs xs[i] = cc at *
        simp (maxSteps := 10000000) (disch := first | assumption | omega) only [EG, EL, simprocAttr, FB, FT, h, hi, wrap_succ, getRow _ _ h, h1, h2, hki, hg, hkl, cx_laws_FnLabels, cl_spec_PlaceOf, hP, cl_spec_Decode, hD, eqf4, Option.map_some, and_self, decide_true, decide_false, seg_full, seg_map, solid_cLine]
        exact i1
set_option maxHeartbeats 4000000 in
theorem law_FnLabels (bs : List UInt8) (hb : bs.length ≤ 140737488351232) : Hol (tru F_laws_FnLabels.res (go X_laws_FnLabels 0 [.c F_laws_FnLabels.body] ⟨params 0 [.tree 1 (bs.map cY)], []⟩)) := by
  refine ⟨?_⟩
  by_cases s0 : 1048576 < (bs.length : Int)
  · simp (maxSteps := 10000000) (disch := first | assumption | omega) only [F_laws_FnLabels, params, EG, EL, simprocAttr, FB, ED, EF, FT, cx_laws_FnLabels, cl_laws_big, sem_laws_big, tru_ret, tru_ite, s0]
  have hb2 : bs.length ≤ 1048576 := by omega
  have D1 := sem_spec_DrawLines bs hb2
  have D2 := sem_spec_DrawAssemble bs hb2
  have hG := drawLines_G (curNew bs)
  have hl := @drawLines_len (curNew bs)
  have ul := @anyL_len (curNew bs)
  generalize (drawLines (curNew bs)).1 = xs at *
  generalize (anyL (curNew bs)).1 = us at *
  have hB : linesB xs xs 0 = true := lineG_ok xs xs [] 0 rfl ⟨fun t ht => by omega, fun t _ _ => rfl⟩ hG
  obtain ⟨t, ht⟩ := lineG_asm xs (by omega) hB xs 0 0 hG hB
  have hc := asmL_cnt xs xs t ht
  have loop := loop_FnLabels bs xs t (by omega) hB ht
  have hok : (linesB xs xs 0 && decide (xs.length ≤ 900)) = true := by rw [hB, decide_eq_true (by omega)]; rfl
  have A1 := sem_impl_Assemble xs (by omega)
  have hV : asmV xs = (t, true) := by unfold asmV; rw [hok, if_pos rfl, ht]; rfl
  rw [hV] at A1
  have C1 := sem_impl_CountOf xs (by omega)
  rw [← hc] at C1
  have P1 := sem_impl_PlaceOf xs ⟨#[110, 111, 110, 101]⟩ (by omega)
  rw [lineG_none xs 0 0 hG, if_pos (by decide)] at P1
  have L1 := sem_impl_LinesOk xs (by omega)
  rw [hok] at L1
  have A2 := sem_impl_Assemble us (by omega)
  have A3 := sem_spec_Assemble us (by omega)
  have hvl := asmV_len us
  have L2 := sem_impl_LinesOk us (by omega)
  have L3 := sem_spec_LinesOk us (by omega)
  have S1 := sem_laws_sameInts_same (asmV us).1 (by omega)
  generalize (asmV us).1 = vs at *
  generalize (asmV us).2 = vb at *
  generalize (linesB us us 0 && decide (us.length ≤ 900)) = lb at *
  have htl := asmL_len xs xs t ht
  simp (maxSteps := 10000000) (disch := first | assumption | omega) only [F_laws_FnLabels, params, EG, EL, simprocAttr, FB, ED, EF, FT, cx_laws_FnLabels, cl_laws_big, sem_laws_big, tru_ret, tru_ite, s0, cl_spec_DrawLines, D1, cl_impl_Assemble, A1, cl_impl_CountOf, C1, loop, cl_spec_DrawAssemble, D2, A2, cl_spec_Assemble, A3, cl_impl_LinesOk, L1, L2, cl_spec_LinesOk, L3, cl_laws_sameInts, S1, cl_impl_PlaceOf, P1, seg_full, seg_map, solid_cLine, decide_true, decide_false, Bool.not_true, Bool.not_false, if_true, if_false]

end Go.Proofs.Ytldmpjoddghdkaa.AI
